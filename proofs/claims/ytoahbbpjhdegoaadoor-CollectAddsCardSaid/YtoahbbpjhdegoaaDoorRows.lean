/-
  NARROWER THAN 'FOR EVERY INPUT', by the rows' own cells (each row's printed sentence says how): CollectChecks: laid · CollectPresents: laid · CollectReasons: laid · CollectEnds: laid · CollectOnce: laid · CollectAdds: laid.
  DERIVED. THE GIVEN ROWS OF THIS SEAT. 6 by the template 'for every input the law returns true; each argument reads behind the call as it read before'; 0 by the template 'total and deterministic' (their statements: YtoahbbpjhdegoaaDoorTotals.lean).
  GIVEN WITH THE SEED: the statements are not yours to turn. If you find one false, say at which input.
  Laid BY PROGRAM, IN A SANDBOX (cutbox-rows.mjs): the forced cells as the released guide's own fill.sh prints them over the translation 72e8b201e923ce83… (all of the seat's roots in one cut). By AI agents, Wed Nov 11 2026. No macro, syntax, notation, axiom, sorry.
-/
import Derived.Test.YtoahbbpjhdegoaaDoorChecked
import GoSem.Claim
import GoSem.ClaimJoined
import GoSem.ClaimMapViews
import Derived.JoinedTies
import Derived.KernelRfl
namespace Go.Proofs.YtoahbbpjhdegoaaDoor
/- THE CELL 'sum', in the pinned program and in every row, IS THE sha256 OF THE DUMP (.gsa) THAT YtoahbbpjhdegoaaDoorProg.lean LOADS. Nothing in Lean hashes anything: it is a label: what it is worth is what the hold of that sum in a sandbox is worth. -/
noncomputable def Tryd.pinned : Pinned := { name := "ytoahbbpjhdegoaadoor", sum := "72e8b201e923ce83d1de320bd1054587a366eaff54313cd7ef6a844928eefa05", checked := Tryd.checked }
namespace Rows
def none {H : Type} : Left H := { results := [], args := [] }

/- WHAT THE LISTED PACKAGE-LEVEL VARIABLES READ AS WHEN THE CALL BEGINS. Each datum BY PROGRAM (the guide's laid-datum.mjs) off the statement by which the dump's own 'gosem.cut.vars' lays the variable. In a bare row this is a premise. The card (YtoahbbpjhdegoaaDoorCards.lean) ties it to the program's text. -/
def laid_corebank_collect_windows {H : Type} : DataW H := .agg [.lit (.int .i64 0), .lit (.int .i64 5), .lit (.int .i64 5), .lit (.int .i64 395), .lit (.int .i64 56)]

/-- 'corebanklaw42.CollectChecks': WHATEVER THE INPUT: true; the input reads as it did. -/
def collectChecksSpec : ChangeSpec := { name := "collectChecks", fn := fun _ => fun
  | [d1, d2] => { results := [.lit (.bool true)], args := [d1, d2] }
  | _ => none }
def collectChecksRow : OpenClaim := { program := "ytoahbbpjhdegoaadoor", sum := "72e8b201e923ce83d1de320bd1054587a366eaff54313cd7ef6a844928eefa05", func := "corebank/corebanklaw42.CollectChecks", spec := "collectChecks", unfollowed := true, recurses := true, named := ["corebank/collect.windows"], apart := false, laid := [("corebank/collect.windows", laid_corebank_collect_windows)] }
def CollectChecksSaid : Prop := collectChecksRow.holds Tryd.pinned (OpenSpec.ofChange collectChecksSpec)

/-- ITS FALSE NEIGHBOUR: 'it returns false'. Refute it at one input. -/
def collectChecksWrong : ChangeSpec := { name := "collectChecks", fn := fun _ => fun
  | [d1, d2] => { results := [.lit (.bool false)], args := [d1, d2] }
  | _ => none }
def CollectChecksWrongFalsely : Prop := collectChecksRow.holds Tryd.pinned (OpenSpec.ofChange collectChecksWrong)

/-- 'corebanklaw42.CollectPresents': WHATEVER THE INPUT: true; the input reads as it did. -/
def collectPresentsSpec : ChangeSpec := { name := "collectPresents", fn := fun _ => fun
  | [d1, d2, d3] => { results := [.lit (.bool true)], args := [d1, d2, d3] }
  | _ => none }
def collectPresentsRow : OpenClaim := { program := "ytoahbbpjhdegoaadoor", sum := "72e8b201e923ce83d1de320bd1054587a366eaff54313cd7ef6a844928eefa05", func := "corebank/corebanklaw42.CollectPresents", spec := "collectPresents", unfollowed := true, recurses := true, named := ["corebank/collect.windows"], apart := false, laid := [("corebank/collect.windows", laid_corebank_collect_windows)] }
def CollectPresentsSaid : Prop := collectPresentsRow.holds Tryd.pinned (OpenSpec.ofChange collectPresentsSpec)

/-- ITS FALSE NEIGHBOUR: 'it returns false'. Refute it at one input. -/
def collectPresentsWrong : ChangeSpec := { name := "collectPresents", fn := fun _ => fun
  | [d1, d2, d3] => { results := [.lit (.bool false)], args := [d1, d2, d3] }
  | _ => none }
def CollectPresentsWrongFalsely : Prop := collectPresentsRow.holds Tryd.pinned (OpenSpec.ofChange collectPresentsWrong)

/-- 'corebanklaw42.CollectReasons': WHATEVER THE INPUT: true; the input reads as it did. -/
def collectReasonsSpec : ChangeSpec := { name := "collectReasons", fn := fun _ => fun
  | [d1, d2] => { results := [.lit (.bool true)], args := [d1, d2] }
  | _ => none }
def collectReasonsRow : OpenClaim := { program := "ytoahbbpjhdegoaadoor", sum := "72e8b201e923ce83d1de320bd1054587a366eaff54313cd7ef6a844928eefa05", func := "corebank/corebanklaw42.CollectReasons", spec := "collectReasons", unfollowed := true, recurses := true, named := ["corebank/collect.windows"], apart := false, laid := [("corebank/collect.windows", laid_corebank_collect_windows)] }
def CollectReasonsSaid : Prop := collectReasonsRow.holds Tryd.pinned (OpenSpec.ofChange collectReasonsSpec)

/-- ITS FALSE NEIGHBOUR: 'it returns false'. Refute it at one input. -/
def collectReasonsWrong : ChangeSpec := { name := "collectReasons", fn := fun _ => fun
  | [d1, d2] => { results := [.lit (.bool false)], args := [d1, d2] }
  | _ => none }
def CollectReasonsWrongFalsely : Prop := collectReasonsRow.holds Tryd.pinned (OpenSpec.ofChange collectReasonsWrong)

/-- 'corebanklaw42.CollectEnds': WHATEVER THE INPUT: true; the input reads as it did. -/
def collectEndsSpec : ChangeSpec := { name := "collectEnds", fn := fun _ => fun
  | [d1, d2] => { results := [.lit (.bool true)], args := [d1, d2] }
  | _ => none }
def collectEndsRow : OpenClaim := { program := "ytoahbbpjhdegoaadoor", sum := "72e8b201e923ce83d1de320bd1054587a366eaff54313cd7ef6a844928eefa05", func := "corebank/corebanklaw42.CollectEnds", spec := "collectEnds", unfollowed := true, recurses := true, named := ["corebank/collect.windows"], apart := false, laid := [("corebank/collect.windows", laid_corebank_collect_windows)] }
def CollectEndsSaid : Prop := collectEndsRow.holds Tryd.pinned (OpenSpec.ofChange collectEndsSpec)

/-- ITS FALSE NEIGHBOUR: 'it returns false'. Refute it at one input. -/
def collectEndsWrong : ChangeSpec := { name := "collectEnds", fn := fun _ => fun
  | [d1, d2] => { results := [.lit (.bool false)], args := [d1, d2] }
  | _ => none }
def CollectEndsWrongFalsely : Prop := collectEndsRow.holds Tryd.pinned (OpenSpec.ofChange collectEndsWrong)

/-- 'corebanklaw42.CollectOnce': WHATEVER THE INPUT: true; the input reads as it did. -/
def collectOnceSpec : ChangeSpec := { name := "collectOnce", fn := fun _ => fun
  | [d1, d2, d3] => { results := [.lit (.bool true)], args := [d1, d2, d3] }
  | _ => none }
def collectOnceRow : OpenClaim := { program := "ytoahbbpjhdegoaadoor", sum := "72e8b201e923ce83d1de320bd1054587a366eaff54313cd7ef6a844928eefa05", func := "corebank/corebanklaw42.CollectOnce", spec := "collectOnce", unfollowed := true, recurses := true, named := ["corebank/collect.windows"], apart := false, laid := [("corebank/collect.windows", laid_corebank_collect_windows)] }
def CollectOnceSaid : Prop := collectOnceRow.holds Tryd.pinned (OpenSpec.ofChange collectOnceSpec)

/-- ITS FALSE NEIGHBOUR: 'it returns false'. Refute it at one input. -/
def collectOnceWrong : ChangeSpec := { name := "collectOnce", fn := fun _ => fun
  | [d1, d2, d3] => { results := [.lit (.bool false)], args := [d1, d2, d3] }
  | _ => none }
def CollectOnceWrongFalsely : Prop := collectOnceRow.holds Tryd.pinned (OpenSpec.ofChange collectOnceWrong)

/-- 'corebanklaw42.CollectAdds': WHATEVER THE INPUT: true; the input reads as it did. -/
def collectAddsSpec : ChangeSpec := { name := "collectAdds", fn := fun _ => fun
  | [d1, d2, d3] => { results := [.lit (.bool true)], args := [d1, d2, d3] }
  | _ => none }
def collectAddsRow : OpenClaim := { program := "ytoahbbpjhdegoaadoor", sum := "72e8b201e923ce83d1de320bd1054587a366eaff54313cd7ef6a844928eefa05", func := "corebank/corebanklaw42.CollectAdds", spec := "collectAdds", unfollowed := true, recurses := true, named := ["corebank/collect.windows"], apart := false, laid := [("corebank/collect.windows", laid_corebank_collect_windows)] }
def CollectAddsSaid : Prop := collectAddsRow.holds Tryd.pinned (OpenSpec.ofChange collectAddsSpec)

/-- ITS FALSE NEIGHBOUR: 'it returns false'. Refute it at one input. -/
def collectAddsWrong : ChangeSpec := { name := "collectAdds", fn := fun _ => fun
  | [d1, d2, d3] => { results := [.lit (.bool false)], args := [d1, d2, d3] }
  | _ => none }
def CollectAddsWrongFalsely : Prop := collectAddsRow.holds Tryd.pinned (OpenSpec.ofChange collectAddsWrong)

/- THE SECOND FORM. 'bulk': how many values and letters a reading holds, each counted each time it is reached (what is shared counts as often as it is met; a slice's spare places count too). A statement '..UptoSaid' is the law's where the arguments, and the package variables that the reading takes, are together of bulk at most 1048576: NARROWER than '..Said'. Prove '..Said' where nothing that the law and all that it calls make is longer than what came in: it says more and counts as full. Else prove '..UptoSaid'. A law counts once. -/
mutual
def uptoBulk {H : Type} : DataW H → Nat
  | .lit (.string bytes) => bytes.length + 1
  | .lit _ => 1
  | .nil => 1
  | .ptr d => uptoBulk d + 1
  | .slice elems spare => uptoBulkAll elems + uptoBulkAll spare + 1
  | .agg parts => uptoBulkAll parts + 1
  | .iface _ d => uptoBulk d + 1
  | .map entries => uptoBulkEntries entries + 1
  | .held _ => 1
def uptoBulkAll {H : Type} : List (DataW H) → Nat
  | [] => 0
  | d :: r => uptoBulk d + uptoBulkAll r
def uptoBulkEntries {H : Type} : List (Lit × DataW H) → Nat
  | [] => 0
  | x :: r => uptoBulkEntry x + uptoBulkEntries r
def uptoBulkEntry {H : Type} : Lit × DataW H → Nat
  | (.string bytes, d) => bytes.length + uptoBulk d + 1
  | (_, d) => uptoBulk d + 1
 end
def uptoSmall : (H : Type) → List (DataW H) → Bool := fun _ ds => decide (uptoBulkAll ds ≤ 1048576)
def OpenSpec.upto (s : _root_.Go.ChangeSpec) : _root_.Go.OpenSpec := { _root_.Go.OpenSpec.ofChange s with cond := some uptoSmall }

/-- 'corebanklaw42.CollectChecks', WHERE WHAT IT READS IS OF BULK AT MOST 1048576: true; the input reads as it did. -/
def collectChecksUptoRow : OpenClaim := { program := "ytoahbbpjhdegoaadoor", sum := "72e8b201e923ce83d1de320bd1054587a366eaff54313cd7ef6a844928eefa05", func := "corebank/corebanklaw42.CollectChecks", spec := "collectChecks", unfollowed := true, recurses := true, named := ["corebank/collect.windows"], apart := false, laid := [("corebank/collect.windows", laid_corebank_collect_windows)], narrowed := true }
def CollectChecksUptoSaid : Prop := collectChecksUptoRow.holds Tryd.pinned (OpenSpec.upto collectChecksSpec)

/-- 'corebanklaw42.CollectPresents', WHERE WHAT IT READS IS OF BULK AT MOST 1048576: true; the input reads as it did. -/
def collectPresentsUptoRow : OpenClaim := { program := "ytoahbbpjhdegoaadoor", sum := "72e8b201e923ce83d1de320bd1054587a366eaff54313cd7ef6a844928eefa05", func := "corebank/corebanklaw42.CollectPresents", spec := "collectPresents", unfollowed := true, recurses := true, named := ["corebank/collect.windows"], apart := false, laid := [("corebank/collect.windows", laid_corebank_collect_windows)], narrowed := true }
def CollectPresentsUptoSaid : Prop := collectPresentsUptoRow.holds Tryd.pinned (OpenSpec.upto collectPresentsSpec)

/-- 'corebanklaw42.CollectReasons', WHERE WHAT IT READS IS OF BULK AT MOST 1048576: true; the input reads as it did. -/
def collectReasonsUptoRow : OpenClaim := { program := "ytoahbbpjhdegoaadoor", sum := "72e8b201e923ce83d1de320bd1054587a366eaff54313cd7ef6a844928eefa05", func := "corebank/corebanklaw42.CollectReasons", spec := "collectReasons", unfollowed := true, recurses := true, named := ["corebank/collect.windows"], apart := false, laid := [("corebank/collect.windows", laid_corebank_collect_windows)], narrowed := true }
def CollectReasonsUptoSaid : Prop := collectReasonsUptoRow.holds Tryd.pinned (OpenSpec.upto collectReasonsSpec)

/-- 'corebanklaw42.CollectEnds', WHERE WHAT IT READS IS OF BULK AT MOST 1048576: true; the input reads as it did. -/
def collectEndsUptoRow : OpenClaim := { program := "ytoahbbpjhdegoaadoor", sum := "72e8b201e923ce83d1de320bd1054587a366eaff54313cd7ef6a844928eefa05", func := "corebank/corebanklaw42.CollectEnds", spec := "collectEnds", unfollowed := true, recurses := true, named := ["corebank/collect.windows"], apart := false, laid := [("corebank/collect.windows", laid_corebank_collect_windows)], narrowed := true }
def CollectEndsUptoSaid : Prop := collectEndsUptoRow.holds Tryd.pinned (OpenSpec.upto collectEndsSpec)

/-- 'corebanklaw42.CollectOnce', WHERE WHAT IT READS IS OF BULK AT MOST 1048576: true; the input reads as it did. -/
def collectOnceUptoRow : OpenClaim := { program := "ytoahbbpjhdegoaadoor", sum := "72e8b201e923ce83d1de320bd1054587a366eaff54313cd7ef6a844928eefa05", func := "corebank/corebanklaw42.CollectOnce", spec := "collectOnce", unfollowed := true, recurses := true, named := ["corebank/collect.windows"], apart := false, laid := [("corebank/collect.windows", laid_corebank_collect_windows)], narrowed := true }
def CollectOnceUptoSaid : Prop := collectOnceUptoRow.holds Tryd.pinned (OpenSpec.upto collectOnceSpec)

/-- 'corebanklaw42.CollectAdds', WHERE WHAT IT READS IS OF BULK AT MOST 1048576: true; the input reads as it did. -/
def collectAddsUptoRow : OpenClaim := { program := "ytoahbbpjhdegoaadoor", sum := "72e8b201e923ce83d1de320bd1054587a366eaff54313cd7ef6a844928eefa05", func := "corebank/corebanklaw42.CollectAdds", spec := "collectAdds", unfollowed := true, recurses := true, named := ["corebank/collect.windows"], apart := false, laid := [("corebank/collect.windows", laid_corebank_collect_windows)], narrowed := true }
def CollectAddsUptoSaid : Prop := collectAddsUptoRow.holds Tryd.pinned (OpenSpec.upto collectAddsSpec)

end Rows
end Go.Proofs.YtoahbbpjhdegoaaDoor
