/-
  No cell of these rows narrows 'for every input' (looked for: loops, veiled, ifaces, maps, wideKeys, modest, calm, conditions, laid).
  DERIVED. THE GIVEN ROWS OF THIS SEAT. 8 by the template 'for every input the law returns true; each argument reads behind the call as it read before'; 0 by the template 'total and deterministic' (their statements: YtmhodpnjhkokoaaTotals.lean).
  GIVEN WITH THE SEED: the statements are not yours to turn. If you find one false, say at which input.
  Laid BY PROGRAM, IN A SANDBOX (cutbox-rows.mjs): the forced cells as the released guide's own fill.sh prints them over the translation e4d5b21cbc12c173… (all of the seat's roots in one cut). By AI agents, Wed Nov 11 2026. No macro, syntax, notation, axiom, sorry.
-/
import Derived.Test.YtmhodpnjhkokoaaChecked
import GoSem.Claim
import GoSem.ClaimJoined
import GoSem.ClaimMapViews
import Derived.JoinedTies
import Derived.KernelRfl
namespace Go.Proofs.Ytmhodpnjhkokoaa
/- THE CELL 'sum', in the pinned program and in every row, IS THE sha256 OF THE DUMP (.gsa) THAT YtmhodpnjhkokoaaProg.lean LOADS. Nothing in Lean hashes anything: it is a label: what it is worth is what the hold of that sum in a sandbox is worth. -/
noncomputable def Try.pinned : Pinned := { name := "ytmhodpnjhkokoaa", sum := "e4d5b21cbc12c1733475d0f1efc983dce4d6cf1849f4e9046d0a195232e577e3", checked := Try.checked }
namespace Rows
def none {H : Type} : Left H := { results := [], args := [] }

/-- 'corebanklaw05.CalendarChecks': WHATEVER THE INPUT: true; the input reads as it did. -/
def calendarChecksSpec : ChangeSpec := { name := "calendarChecks", fn := fun _ => fun
  | [d] => { results := [.lit (.bool true)], args := [d] }
  | _ => none }
def calendarChecksRow : OpenClaim := { program := "ytmhodpnjhkokoaa", sum := "e4d5b21cbc12c1733475d0f1efc983dce4d6cf1849f4e9046d0a195232e577e3", func := "corebank/corebanklaw05.CalendarChecks", spec := "calendarChecks", unfollowed := true, recurses := true, apart := false }
def CalendarChecksSaid : Prop := calendarChecksRow.holds Try.pinned (OpenSpec.ofChange calendarChecksSpec)

/-- ITS FALSE NEIGHBOUR: 'it returns false'. Refute it at one input. -/
def calendarChecksWrong : ChangeSpec := { name := "calendarChecks", fn := fun _ => fun
  | [d] => { results := [.lit (.bool false)], args := [d] }
  | _ => none }
def CalendarChecksWrongFalsely : Prop := calendarChecksRow.holds Try.pinned (OpenSpec.ofChange calendarChecksWrong)

/-- 'corebanklaw05.CalendarOpens': WHATEVER THE INPUT: true; the input reads as it did. -/
def calendarOpensSpec : ChangeSpec := { name := "calendarOpens", fn := fun _ => fun
  | [d1, d2] => { results := [.lit (.bool true)], args := [d1, d2] }
  | _ => none }
def calendarOpensRow : OpenClaim := { program := "ytmhodpnjhkokoaa", sum := "e4d5b21cbc12c1733475d0f1efc983dce4d6cf1849f4e9046d0a195232e577e3", func := "corebank/corebanklaw05.CalendarOpens", spec := "calendarOpens", unfollowed := true, recurses := true, apart := false }
def CalendarOpensSaid : Prop := calendarOpensRow.holds Try.pinned (OpenSpec.ofChange calendarOpensSpec)

/-- ITS FALSE NEIGHBOUR: 'it returns false'. Refute it at one input. -/
def calendarOpensWrong : ChangeSpec := { name := "calendarOpens", fn := fun _ => fun
  | [d1, d2] => { results := [.lit (.bool false)], args := [d1, d2] }
  | _ => none }
def CalendarOpensWrongFalsely : Prop := calendarOpensRow.holds Try.pinned (OpenSpec.ofChange calendarOpensWrong)

/-- 'corebanklaw05.CalendarAdjusts': WHATEVER THE INPUT: true; the input reads as it did. -/
def calendarAdjustsSpec : ChangeSpec := { name := "calendarAdjusts", fn := fun _ => fun
  | [d1, d2, d3] => { results := [.lit (.bool true)], args := [d1, d2, d3] }
  | _ => none }
def calendarAdjustsRow : OpenClaim := { program := "ytmhodpnjhkokoaa", sum := "e4d5b21cbc12c1733475d0f1efc983dce4d6cf1849f4e9046d0a195232e577e3", func := "corebank/corebanklaw05.CalendarAdjusts", spec := "calendarAdjusts", unfollowed := true, recurses := true, apart := false }
def CalendarAdjustsSaid : Prop := calendarAdjustsRow.holds Try.pinned (OpenSpec.ofChange calendarAdjustsSpec)

/-- ITS FALSE NEIGHBOUR: 'it returns false'. Refute it at one input. -/
def calendarAdjustsWrong : ChangeSpec := { name := "calendarAdjusts", fn := fun _ => fun
  | [d1, d2, d3] => { results := [.lit (.bool false)], args := [d1, d2, d3] }
  | _ => none }
def CalendarAdjustsWrongFalsely : Prop := calendarAdjustsRow.holds Try.pinned (OpenSpec.ofChange calendarAdjustsWrong)

/-- 'corebanklaw05.CalendarAdds': WHATEVER THE INPUT: true; the input reads as it did. -/
def calendarAddsSpec : ChangeSpec := { name := "calendarAdds", fn := fun _ => fun
  | [d1, d2, d3] => { results := [.lit (.bool true)], args := [d1, d2, d3] }
  | _ => none }
def calendarAddsRow : OpenClaim := { program := "ytmhodpnjhkokoaa", sum := "e4d5b21cbc12c1733475d0f1efc983dce4d6cf1849f4e9046d0a195232e577e3", func := "corebank/corebanklaw05.CalendarAdds", spec := "calendarAdds", unfollowed := true, recurses := true, apart := false }
def CalendarAddsSaid : Prop := calendarAddsRow.holds Try.pinned (OpenSpec.ofChange calendarAddsSpec)

/-- ITS FALSE NEIGHBOUR: 'it returns false'. Refute it at one input. -/
def calendarAddsWrong : ChangeSpec := { name := "calendarAdds", fn := fun _ => fun
  | [d1, d2, d3] => { results := [.lit (.bool false)], args := [d1, d2, d3] }
  | _ => none }
def CalendarAddsWrongFalsely : Prop := calendarAddsRow.holds Try.pinned (OpenSpec.ofChange calendarAddsWrong)

/-- 'corebanklaw05.CalendarTallies': WHATEVER THE INPUT: true; the input reads as it did. -/
def calendarTalliesSpec : ChangeSpec := { name := "calendarTallies", fn := fun _ => fun
  | [d1, d2] => { results := [.lit (.bool true)], args := [d1, d2] }
  | _ => none }
def calendarTalliesRow : OpenClaim := { program := "ytmhodpnjhkokoaa", sum := "e4d5b21cbc12c1733475d0f1efc983dce4d6cf1849f4e9046d0a195232e577e3", func := "corebank/corebanklaw05.CalendarTallies", spec := "calendarTallies", unfollowed := true, recurses := true, apart := false }
def CalendarTalliesSaid : Prop := calendarTalliesRow.holds Try.pinned (OpenSpec.ofChange calendarTalliesSpec)

/-- ITS FALSE NEIGHBOUR: 'it returns false'. Refute it at one input. -/
def calendarTalliesWrong : ChangeSpec := { name := "calendarTallies", fn := fun _ => fun
  | [d1, d2] => { results := [.lit (.bool false)], args := [d1, d2] }
  | _ => none }
def CalendarTalliesWrongFalsely : Prop := calendarTalliesRow.holds Try.pinned (OpenSpec.ofChange calendarTalliesWrong)

/-- 'corebanklaw05.CalendarCounts': WHATEVER THE INPUT: true; the input reads as it did. -/
def calendarCountsSpec : ChangeSpec := { name := "calendarCounts", fn := fun _ => fun
  | [d1, d2, d3] => { results := [.lit (.bool true)], args := [d1, d2, d3] }
  | _ => none }
def calendarCountsRow : OpenClaim := { program := "ytmhodpnjhkokoaa", sum := "e4d5b21cbc12c1733475d0f1efc983dce4d6cf1849f4e9046d0a195232e577e3", func := "corebank/corebanklaw05.CalendarCounts", spec := "calendarCounts", unfollowed := true, recurses := true, apart := false }
def CalendarCountsSaid : Prop := calendarCountsRow.holds Try.pinned (OpenSpec.ofChange calendarCountsSpec)

/-- ITS FALSE NEIGHBOUR: 'it returns false'. Refute it at one input. -/
def calendarCountsWrong : ChangeSpec := { name := "calendarCounts", fn := fun _ => fun
  | [d1, d2, d3] => { results := [.lit (.bool false)], args := [d1, d2, d3] }
  | _ => none }
def CalendarCountsWrongFalsely : Prop := calendarCountsRow.holds Try.pinned (OpenSpec.ofChange calendarCountsWrong)

/-- 'corebanklaw05.CalendarJoins': WHATEVER THE INPUT: true; the input reads as it did. -/
def calendarJoinsSpec : ChangeSpec := { name := "calendarJoins", fn := fun _ => fun
  | [d1, d2, d3] => { results := [.lit (.bool true)], args := [d1, d2, d3] }
  | _ => none }
def calendarJoinsRow : OpenClaim := { program := "ytmhodpnjhkokoaa", sum := "e4d5b21cbc12c1733475d0f1efc983dce4d6cf1849f4e9046d0a195232e577e3", func := "corebank/corebanklaw05.CalendarJoins", spec := "calendarJoins", unfollowed := true, recurses := true, apart := false }
def CalendarJoinsSaid : Prop := calendarJoinsRow.holds Try.pinned (OpenSpec.ofChange calendarJoinsSpec)

/-- ITS FALSE NEIGHBOUR: 'it returns false'. Refute it at one input. -/
def calendarJoinsWrong : ChangeSpec := { name := "calendarJoins", fn := fun _ => fun
  | [d1, d2, d3] => { results := [.lit (.bool false)], args := [d1, d2, d3] }
  | _ => none }
def CalendarJoinsWrongFalsely : Prop := calendarJoinsRow.holds Try.pinned (OpenSpec.ofChange calendarJoinsWrong)

/-- 'corebanklaw05.CalendarFinds': WHATEVER THE INPUT: true; the input reads as it did. -/
def calendarFindsSpec : ChangeSpec := { name := "calendarFinds", fn := fun _ => fun
  | [d1, d2] => { results := [.lit (.bool true)], args := [d1, d2] }
  | _ => none }
def calendarFindsRow : OpenClaim := { program := "ytmhodpnjhkokoaa", sum := "e4d5b21cbc12c1733475d0f1efc983dce4d6cf1849f4e9046d0a195232e577e3", func := "corebank/corebanklaw05.CalendarFinds", spec := "calendarFinds", unfollowed := true, recurses := true, apart := false }
def CalendarFindsSaid : Prop := calendarFindsRow.holds Try.pinned (OpenSpec.ofChange calendarFindsSpec)

/-- ITS FALSE NEIGHBOUR: 'it returns false'. Refute it at one input. -/
def calendarFindsWrong : ChangeSpec := { name := "calendarFinds", fn := fun _ => fun
  | [d1, d2] => { results := [.lit (.bool false)], args := [d1, d2] }
  | _ => none }
def CalendarFindsWrongFalsely : Prop := calendarFindsRow.holds Try.pinned (OpenSpec.ofChange calendarFindsWrong)

/- THE SECOND FORM. 'bulk': how many values and letters a reading holds, each counted each time it is reached (what is shared counts as often as it is met; a slice's spare places count too). A statement '..UptoSaid' is the law's where the arguments, and the package variables that the reading takes, are together of bulk at most 1048576: NARROWER than '..Said'. Prove '..Said' where nothing that the law and all that it calls make is longer than what came in: it says more and counts as full. Else prove '..UptoSaid'. A law counts once. -/
mutual
def uptoBulk {H : Type} : DataW H → Nat
  | .lit (.string bytes) => bytes.length + 1
  | .lit _ => 1
  | .nil => 1
  | .ptr d => uptoBulk d + 1
  | .slice elems spare => uptoBulkAll elems + uptoBulkAll spare + 1
  | .agg parts => uptoBulkAll parts + 1
  | .iface _ d => uptoBulk d + 1
  | .map entries => uptoBulkEntries entries + 1
  | .held _ => 1
def uptoBulkAll {H : Type} : List (DataW H) → Nat
  | [] => 0
  | d :: r => uptoBulk d + uptoBulkAll r
def uptoBulkEntries {H : Type} : List (Lit × DataW H) → Nat
  | [] => 0
  | x :: r => uptoBulkEntry x + uptoBulkEntries r
def uptoBulkEntry {H : Type} : Lit × DataW H → Nat
  | (.string bytes, d) => bytes.length + uptoBulk d + 1
  | (_, d) => uptoBulk d + 1
 end
def uptoSmall : (H : Type) → List (DataW H) → Bool := fun _ ds => decide (uptoBulkAll ds ≤ 1048576)
def OpenSpec.upto (s : _root_.Go.ChangeSpec) : _root_.Go.OpenSpec := { _root_.Go.OpenSpec.ofChange s with cond := some uptoSmall }

/-- 'corebanklaw05.CalendarChecks', WHERE WHAT IT READS IS OF BULK AT MOST 1048576: true; the input reads as it did. -/
def calendarChecksUptoRow : OpenClaim := { program := "ytmhodpnjhkokoaa", sum := "e4d5b21cbc12c1733475d0f1efc983dce4d6cf1849f4e9046d0a195232e577e3", func := "corebank/corebanklaw05.CalendarChecks", spec := "calendarChecks", unfollowed := true, recurses := true, apart := false, narrowed := true }
def CalendarChecksUptoSaid : Prop := calendarChecksUptoRow.holds Try.pinned (OpenSpec.upto calendarChecksSpec)

/-- 'corebanklaw05.CalendarOpens', WHERE WHAT IT READS IS OF BULK AT MOST 1048576: true; the input reads as it did. -/
def calendarOpensUptoRow : OpenClaim := { program := "ytmhodpnjhkokoaa", sum := "e4d5b21cbc12c1733475d0f1efc983dce4d6cf1849f4e9046d0a195232e577e3", func := "corebank/corebanklaw05.CalendarOpens", spec := "calendarOpens", unfollowed := true, recurses := true, apart := false, narrowed := true }
def CalendarOpensUptoSaid : Prop := calendarOpensUptoRow.holds Try.pinned (OpenSpec.upto calendarOpensSpec)

/-- 'corebanklaw05.CalendarAdjusts', WHERE WHAT IT READS IS OF BULK AT MOST 1048576: true; the input reads as it did. -/
def calendarAdjustsUptoRow : OpenClaim := { program := "ytmhodpnjhkokoaa", sum := "e4d5b21cbc12c1733475d0f1efc983dce4d6cf1849f4e9046d0a195232e577e3", func := "corebank/corebanklaw05.CalendarAdjusts", spec := "calendarAdjusts", unfollowed := true, recurses := true, apart := false, narrowed := true }
def CalendarAdjustsUptoSaid : Prop := calendarAdjustsUptoRow.holds Try.pinned (OpenSpec.upto calendarAdjustsSpec)

/-- 'corebanklaw05.CalendarAdds', WHERE WHAT IT READS IS OF BULK AT MOST 1048576: true; the input reads as it did. -/
def calendarAddsUptoRow : OpenClaim := { program := "ytmhodpnjhkokoaa", sum := "e4d5b21cbc12c1733475d0f1efc983dce4d6cf1849f4e9046d0a195232e577e3", func := "corebank/corebanklaw05.CalendarAdds", spec := "calendarAdds", unfollowed := true, recurses := true, apart := false, narrowed := true }
def CalendarAddsUptoSaid : Prop := calendarAddsUptoRow.holds Try.pinned (OpenSpec.upto calendarAddsSpec)

/-- 'corebanklaw05.CalendarTallies', WHERE WHAT IT READS IS OF BULK AT MOST 1048576: true; the input reads as it did. -/
def calendarTalliesUptoRow : OpenClaim := { program := "ytmhodpnjhkokoaa", sum := "e4d5b21cbc12c1733475d0f1efc983dce4d6cf1849f4e9046d0a195232e577e3", func := "corebank/corebanklaw05.CalendarTallies", spec := "calendarTallies", unfollowed := true, recurses := true, apart := false, narrowed := true }
def CalendarTalliesUptoSaid : Prop := calendarTalliesUptoRow.holds Try.pinned (OpenSpec.upto calendarTalliesSpec)

/-- 'corebanklaw05.CalendarCounts', WHERE WHAT IT READS IS OF BULK AT MOST 1048576: true; the input reads as it did. -/
def calendarCountsUptoRow : OpenClaim := { program := "ytmhodpnjhkokoaa", sum := "e4d5b21cbc12c1733475d0f1efc983dce4d6cf1849f4e9046d0a195232e577e3", func := "corebank/corebanklaw05.CalendarCounts", spec := "calendarCounts", unfollowed := true, recurses := true, apart := false, narrowed := true }
def CalendarCountsUptoSaid : Prop := calendarCountsUptoRow.holds Try.pinned (OpenSpec.upto calendarCountsSpec)

/-- 'corebanklaw05.CalendarJoins', WHERE WHAT IT READS IS OF BULK AT MOST 1048576: true; the input reads as it did. -/
def calendarJoinsUptoRow : OpenClaim := { program := "ytmhodpnjhkokoaa", sum := "e4d5b21cbc12c1733475d0f1efc983dce4d6cf1849f4e9046d0a195232e577e3", func := "corebank/corebanklaw05.CalendarJoins", spec := "calendarJoins", unfollowed := true, recurses := true, apart := false, narrowed := true }
def CalendarJoinsUptoSaid : Prop := calendarJoinsUptoRow.holds Try.pinned (OpenSpec.upto calendarJoinsSpec)

/-- 'corebanklaw05.CalendarFinds', WHERE WHAT IT READS IS OF BULK AT MOST 1048576: true; the input reads as it did. -/
def calendarFindsUptoRow : OpenClaim := { program := "ytmhodpnjhkokoaa", sum := "e4d5b21cbc12c1733475d0f1efc983dce4d6cf1849f4e9046d0a195232e577e3", func := "corebank/corebanklaw05.CalendarFinds", spec := "calendarFinds", unfollowed := true, recurses := true, apart := false, narrowed := true }
def CalendarFindsUptoSaid : Prop := calendarFindsUptoRow.holds Try.pinned (OpenSpec.upto calendarFindsSpec)

end Rows
end Go.Proofs.Ytmhodpnjhkokoaa
