/-
  No cell of these rows narrows 'for every input' (looked for: loops, veiled, ifaces, maps, wideKeys, modest, calm, conditions, laid).
  DERIVED. THE GIVEN ROWS OF THIS SEAT. 4 by the template 'for every input the law returns true; each argument reads behind the call as it read before'; 0 by the template 'total and deterministic' (their statements: YtonibcnbcnibeaaTotals.lean).
  GIVEN WITH THE SEED: the statements are not yours to turn. If you find one false, say at which input.
  Laid BY PROGRAM, IN A SANDBOX (cutbox-rows.mjs): the forced cells as the released guide's own fill.sh prints them over the translation 07193905178b45f2… (all of the seat's roots in one cut). By AI agents, Wed Nov 11 2026. No macro, syntax, notation, axiom, sorry.
-/
import Derived.Test.YtonibcnbcnibeaaChecked
import GoSem.Claim
import GoSem.ClaimJoined
import GoSem.ClaimMapViews
import Derived.JoinedTies
import Derived.KernelRfl
namespace Go.Proofs.Ytonibcnbcnibeaa
/- THE CELL 'sum', in the pinned program and in every row, IS THE sha256 OF THE DUMP (.gsa) THAT YtonibcnbcnibeaaProg.lean LOADS. Nothing in Lean hashes anything: it is a label: what it is worth is what the hold of that sum in a sandbox is worth. -/
noncomputable def Try.pinned : Pinned := { name := "ytonibcnbcnibeaa", sum := "07193905178b45f2b00eaf8ed856f6f973ae7fbc1fbc6f58c3f6fb31750f79d2", checked := Try.checked }
namespace Rows
def none {H : Type} : Left H := { results := [], args := [] }

/-- 'corebanklaw46.AccessChecks': WHATEVER THE INPUT: true; the input reads as it did. -/
def accessChecksSpec : ChangeSpec := { name := "accessChecks", fn := fun _ => fun
  | [d1, d2] => { results := [.lit (.bool true)], args := [d1, d2] }
  | _ => none }
def accessChecksRow : OpenClaim := { program := "ytonibcnbcnibeaa", sum := "07193905178b45f2b00eaf8ed856f6f973ae7fbc1fbc6f58c3f6fb31750f79d2", func := "corebank/corebanklaw46.AccessChecks", spec := "accessChecks", unfollowed := true, recurses := true, apart := false }
def AccessChecksSaid : Prop := accessChecksRow.holds Try.pinned (OpenSpec.ofChange accessChecksSpec)

/-- ITS FALSE NEIGHBOUR: 'it returns false'. Refute it at one input. -/
def accessChecksWrong : ChangeSpec := { name := "accessChecks", fn := fun _ => fun
  | [d1, d2] => { results := [.lit (.bool false)], args := [d1, d2] }
  | _ => none }
def AccessChecksWrongFalsely : Prop := accessChecksRow.holds Try.pinned (OpenSpec.ofChange accessChecksWrong)

/-- 'corebanklaw46.AccessDecides': WHATEVER THE INPUT: true; the input reads as it did. -/
def accessDecidesSpec : ChangeSpec := { name := "accessDecides", fn := fun _ => fun
  | [d1, d2, d3] => { results := [.lit (.bool true)], args := [d1, d2, d3] }
  | _ => none }
def accessDecidesRow : OpenClaim := { program := "ytonibcnbcnibeaa", sum := "07193905178b45f2b00eaf8ed856f6f973ae7fbc1fbc6f58c3f6fb31750f79d2", func := "corebank/corebanklaw46.AccessDecides", spec := "accessDecides", unfollowed := true, recurses := true, apart := false }
def AccessDecidesSaid : Prop := accessDecidesRow.holds Try.pinned (OpenSpec.ofChange accessDecidesSpec)

/-- ITS FALSE NEIGHBOUR: 'it returns false'. Refute it at one input. -/
def accessDecidesWrong : ChangeSpec := { name := "accessDecides", fn := fun _ => fun
  | [d1, d2, d3] => { results := [.lit (.bool false)], args := [d1, d2, d3] }
  | _ => none }
def AccessDecidesWrongFalsely : Prop := accessDecidesRow.holds Try.pinned (OpenSpec.ofChange accessDecidesWrong)

/-- 'corebanklaw46.AccessChanges': WHATEVER THE INPUT: true; the input reads as it did. -/
def accessChangesSpec : ChangeSpec := { name := "accessChanges", fn := fun _ => fun
  | [d1, d2, d3] => { results := [.lit (.bool true)], args := [d1, d2, d3] }
  | _ => none }
def accessChangesRow : OpenClaim := { program := "ytonibcnbcnibeaa", sum := "07193905178b45f2b00eaf8ed856f6f973ae7fbc1fbc6f58c3f6fb31750f79d2", func := "corebank/corebanklaw46.AccessChanges", spec := "accessChanges", unfollowed := true, recurses := true, apart := false }
def AccessChangesSaid : Prop := accessChangesRow.holds Try.pinned (OpenSpec.ofChange accessChangesSpec)

/-- ITS FALSE NEIGHBOUR: 'it returns false'. Refute it at one input. -/
def accessChangesWrong : ChangeSpec := { name := "accessChanges", fn := fun _ => fun
  | [d1, d2, d3] => { results := [.lit (.bool false)], args := [d1, d2, d3] }
  | _ => none }
def AccessChangesWrongFalsely : Prop := accessChangesRow.holds Try.pinned (OpenSpec.ofChange accessChangesWrong)

/-- 'corebanklaw46.AccessRights': WHATEVER THE INPUT: true; the input reads as it did. -/
def accessRightsSpec : ChangeSpec := { name := "accessRights", fn := fun _ => fun
  | [d1, d2, d3] => { results := [.lit (.bool true)], args := [d1, d2, d3] }
  | _ => none }
def accessRightsRow : OpenClaim := { program := "ytonibcnbcnibeaa", sum := "07193905178b45f2b00eaf8ed856f6f973ae7fbc1fbc6f58c3f6fb31750f79d2", func := "corebank/corebanklaw46.AccessRights", spec := "accessRights", unfollowed := true, recurses := true, apart := false }
def AccessRightsSaid : Prop := accessRightsRow.holds Try.pinned (OpenSpec.ofChange accessRightsSpec)

/-- ITS FALSE NEIGHBOUR: 'it returns false'. Refute it at one input. -/
def accessRightsWrong : ChangeSpec := { name := "accessRights", fn := fun _ => fun
  | [d1, d2, d3] => { results := [.lit (.bool false)], args := [d1, d2, d3] }
  | _ => none }
def AccessRightsWrongFalsely : Prop := accessRightsRow.holds Try.pinned (OpenSpec.ofChange accessRightsWrong)

/- THE SECOND FORM. 'bulk': how many values and letters a reading holds, each counted each time it is reached (what is shared counts as often as it is met; a slice's spare places count too). A statement '..UptoSaid' is the law's where the arguments, and the package variables that the reading takes, are together of bulk at most 1048576: NARROWER than '..Said'. Prove '..Said' where nothing that the law and all that it calls make is longer than what came in: it says more and counts as full. Else prove '..UptoSaid'. A law counts once. -/
mutual
def uptoBulk {H : Type} : DataW H → Nat
  | .lit (.string bytes) => bytes.length + 1
  | .lit _ => 1
  | .nil => 1
  | .ptr d => uptoBulk d + 1
  | .slice elems spare => uptoBulkAll elems + uptoBulkAll spare + 1
  | .agg parts => uptoBulkAll parts + 1
  | .iface _ d => uptoBulk d + 1
  | .map entries => uptoBulkEntries entries + 1
  | .held _ => 1
def uptoBulkAll {H : Type} : List (DataW H) → Nat
  | [] => 0
  | d :: r => uptoBulk d + uptoBulkAll r
def uptoBulkEntries {H : Type} : List (Lit × DataW H) → Nat
  | [] => 0
  | x :: r => uptoBulkEntry x + uptoBulkEntries r
def uptoBulkEntry {H : Type} : Lit × DataW H → Nat
  | (.string bytes, d) => bytes.length + uptoBulk d + 1
  | (_, d) => uptoBulk d + 1
 end
def uptoSmall : (H : Type) → List (DataW H) → Bool := fun _ ds => decide (uptoBulkAll ds ≤ 1048576)
def OpenSpec.upto (s : _root_.Go.ChangeSpec) : _root_.Go.OpenSpec := { _root_.Go.OpenSpec.ofChange s with cond := some uptoSmall }

/-- 'corebanklaw46.AccessChecks', WHERE WHAT IT READS IS OF BULK AT MOST 1048576: true; the input reads as it did. -/
def accessChecksUptoRow : OpenClaim := { program := "ytonibcnbcnibeaa", sum := "07193905178b45f2b00eaf8ed856f6f973ae7fbc1fbc6f58c3f6fb31750f79d2", func := "corebank/corebanklaw46.AccessChecks", spec := "accessChecks", unfollowed := true, recurses := true, apart := false, narrowed := true }
def AccessChecksUptoSaid : Prop := accessChecksUptoRow.holds Try.pinned (OpenSpec.upto accessChecksSpec)

/-- 'corebanklaw46.AccessDecides', WHERE WHAT IT READS IS OF BULK AT MOST 1048576: true; the input reads as it did. -/
def accessDecidesUptoRow : OpenClaim := { program := "ytonibcnbcnibeaa", sum := "07193905178b45f2b00eaf8ed856f6f973ae7fbc1fbc6f58c3f6fb31750f79d2", func := "corebank/corebanklaw46.AccessDecides", spec := "accessDecides", unfollowed := true, recurses := true, apart := false, narrowed := true }
def AccessDecidesUptoSaid : Prop := accessDecidesUptoRow.holds Try.pinned (OpenSpec.upto accessDecidesSpec)

/-- 'corebanklaw46.AccessChanges', WHERE WHAT IT READS IS OF BULK AT MOST 1048576: true; the input reads as it did. -/
def accessChangesUptoRow : OpenClaim := { program := "ytonibcnbcnibeaa", sum := "07193905178b45f2b00eaf8ed856f6f973ae7fbc1fbc6f58c3f6fb31750f79d2", func := "corebank/corebanklaw46.AccessChanges", spec := "accessChanges", unfollowed := true, recurses := true, apart := false, narrowed := true }
def AccessChangesUptoSaid : Prop := accessChangesUptoRow.holds Try.pinned (OpenSpec.upto accessChangesSpec)

/-- 'corebanklaw46.AccessRights', WHERE WHAT IT READS IS OF BULK AT MOST 1048576: true; the input reads as it did. -/
def accessRightsUptoRow : OpenClaim := { program := "ytonibcnbcnibeaa", sum := "07193905178b45f2b00eaf8ed856f6f973ae7fbc1fbc6f58c3f6fb31750f79d2", func := "corebank/corebanklaw46.AccessRights", spec := "accessRights", unfollowed := true, recurses := true, apart := false, narrowed := true }
def AccessRightsUptoSaid : Prop := accessRightsUptoRow.holds Try.pinned (OpenSpec.upto accessRightsSpec)

end Rows
end Go.Proofs.Ytonibcnbcnibeaa
