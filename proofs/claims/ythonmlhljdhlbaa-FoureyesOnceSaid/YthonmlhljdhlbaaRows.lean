/-
  No cell of these rows narrows 'for every input' (looked for: loops, veiled, ifaces, maps, wideKeys, modest, calm, conditions, laid).
  DERIVED. THE GIVEN ROWS OF THIS SEAT. 6 by the template 'for every input the law returns true; each argument reads behind the call as it read before'; 0 by the template 'total and deterministic' (their statements: YthonmlhljdhlbaaTotals.lean).
  GIVEN WITH THE SEED: the statements are not yours to turn. If you find one false, say at which input.
  Laid BY PROGRAM, IN A SANDBOX (cutbox-rows.mjs): the forced cells as the released guide's own fill.sh prints them over the translation ffc3d05cbebf283b… (all of the seat's roots in one cut). By AI agents, Wed Nov 11 2026. No macro, syntax, notation, axiom, sorry.
-/
import Derived.Test.YthonmlhljdhlbaaChecked
import GoSem.Claim
import GoSem.ClaimJoined
import GoSem.ClaimMapViews
import Derived.JoinedTies
import Derived.KernelRfl
namespace Go.Proofs.Ythonmlhljdhlbaa
/- THE CELL 'sum', in the pinned program and in every row, IS THE sha256 OF THE DUMP (.gsa) THAT YthonmlhljdhlbaaProg.lean LOADS. Nothing in Lean hashes anything: it is a label: what it is worth is what the hold of that sum in a sandbox is worth. -/
noncomputable def Try.pinned : Pinned := { name := "ythonmlhljdhlbaa", sum := "ffc3d05cbebf283bf34465969b06e72cd3a72754ecc230f7d8f968f30150af07", checked := Try.checked }
namespace Rows
def none {H : Type} : Left H := { results := [], args := [] }

/-- 'corebanklaw47.FoureyesChecks': WHATEVER THE INPUT: true; the input reads as it did. -/
def foureyesChecksSpec : ChangeSpec := { name := "foureyesChecks", fn := fun _ => fun
  | [d] => { results := [.lit (.bool true)], args := [d] }
  | _ => none }
def foureyesChecksRow : OpenClaim := { program := "ythonmlhljdhlbaa", sum := "ffc3d05cbebf283bf34465969b06e72cd3a72754ecc230f7d8f968f30150af07", func := "corebank/corebanklaw47.FoureyesChecks", spec := "foureyesChecks", unfollowed := true, recurses := true, apart := false }
def FoureyesChecksSaid : Prop := foureyesChecksRow.holds Try.pinned (OpenSpec.ofChange foureyesChecksSpec)

/-- ITS FALSE NEIGHBOUR: 'it returns false'. Refute it at one input. -/
def foureyesChecksWrong : ChangeSpec := { name := "foureyesChecks", fn := fun _ => fun
  | [d] => { results := [.lit (.bool false)], args := [d] }
  | _ => none }
def FoureyesChecksWrongFalsely : Prop := foureyesChecksRow.holds Try.pinned (OpenSpec.ofChange foureyesChecksWrong)

/-- 'corebanklaw47.FoureyesProposes': WHATEVER THE INPUT: true; the input reads as it did. -/
def foureyesProposesSpec : ChangeSpec := { name := "foureyesProposes", fn := fun _ => fun
  | [d1, d2] => { results := [.lit (.bool true)], args := [d1, d2] }
  | _ => none }
def foureyesProposesRow : OpenClaim := { program := "ythonmlhljdhlbaa", sum := "ffc3d05cbebf283bf34465969b06e72cd3a72754ecc230f7d8f968f30150af07", func := "corebank/corebanklaw47.FoureyesProposes", spec := "foureyesProposes", unfollowed := true, recurses := true, apart := false }
def FoureyesProposesSaid : Prop := foureyesProposesRow.holds Try.pinned (OpenSpec.ofChange foureyesProposesSpec)

/-- ITS FALSE NEIGHBOUR: 'it returns false'. Refute it at one input. -/
def foureyesProposesWrong : ChangeSpec := { name := "foureyesProposes", fn := fun _ => fun
  | [d1, d2] => { results := [.lit (.bool false)], args := [d1, d2] }
  | _ => none }
def FoureyesProposesWrongFalsely : Prop := foureyesProposesRow.holds Try.pinned (OpenSpec.ofChange foureyesProposesWrong)

/-- 'corebanklaw47.FoureyesApproves': WHATEVER THE INPUT: true; the input reads as it did. -/
def foureyesApprovesSpec : ChangeSpec := { name := "foureyesApproves", fn := fun _ => fun
  | [d1, d2, d3] => { results := [.lit (.bool true)], args := [d1, d2, d3] }
  | _ => none }
def foureyesApprovesRow : OpenClaim := { program := "ythonmlhljdhlbaa", sum := "ffc3d05cbebf283bf34465969b06e72cd3a72754ecc230f7d8f968f30150af07", func := "corebank/corebanklaw47.FoureyesApproves", spec := "foureyesApproves", unfollowed := true, recurses := true, apart := false }
def FoureyesApprovesSaid : Prop := foureyesApprovesRow.holds Try.pinned (OpenSpec.ofChange foureyesApprovesSpec)

/-- ITS FALSE NEIGHBOUR: 'it returns false'. Refute it at one input. -/
def foureyesApprovesWrong : ChangeSpec := { name := "foureyesApproves", fn := fun _ => fun
  | [d1, d2, d3] => { results := [.lit (.bool false)], args := [d1, d2, d3] }
  | _ => none }
def FoureyesApprovesWrongFalsely : Prop := foureyesApprovesRow.holds Try.pinned (OpenSpec.ofChange foureyesApprovesWrong)

/-- 'corebanklaw47.FoureyesTwo': WHATEVER THE INPUT: true; the input reads as it did. -/
def foureyesTwoSpec : ChangeSpec := { name := "foureyesTwo", fn := fun _ => fun
  | [d1, d2, d3] => { results := [.lit (.bool true)], args := [d1, d2, d3] }
  | _ => none }
def foureyesTwoRow : OpenClaim := { program := "ythonmlhljdhlbaa", sum := "ffc3d05cbebf283bf34465969b06e72cd3a72754ecc230f7d8f968f30150af07", func := "corebank/corebanklaw47.FoureyesTwo", spec := "foureyesTwo", unfollowed := true, recurses := true, apart := false }
def FoureyesTwoSaid : Prop := foureyesTwoRow.holds Try.pinned (OpenSpec.ofChange foureyesTwoSpec)

/-- ITS FALSE NEIGHBOUR: 'it returns false'. Refute it at one input. -/
def foureyesTwoWrong : ChangeSpec := { name := "foureyesTwo", fn := fun _ => fun
  | [d1, d2, d3] => { results := [.lit (.bool false)], args := [d1, d2, d3] }
  | _ => none }
def FoureyesTwoWrongFalsely : Prop := foureyesTwoRow.holds Try.pinned (OpenSpec.ofChange foureyesTwoWrong)

/-- 'corebanklaw47.FoureyesExpires': WHATEVER THE INPUT: true; the input reads as it did. -/
def foureyesExpiresSpec : ChangeSpec := { name := "foureyesExpires", fn := fun _ => fun
  | [d1, d2] => { results := [.lit (.bool true)], args := [d1, d2] }
  | _ => none }
def foureyesExpiresRow : OpenClaim := { program := "ythonmlhljdhlbaa", sum := "ffc3d05cbebf283bf34465969b06e72cd3a72754ecc230f7d8f968f30150af07", func := "corebank/corebanklaw47.FoureyesExpires", spec := "foureyesExpires", unfollowed := true, recurses := true, apart := false }
def FoureyesExpiresSaid : Prop := foureyesExpiresRow.holds Try.pinned (OpenSpec.ofChange foureyesExpiresSpec)

/-- ITS FALSE NEIGHBOUR: 'it returns false'. Refute it at one input. -/
def foureyesExpiresWrong : ChangeSpec := { name := "foureyesExpires", fn := fun _ => fun
  | [d1, d2] => { results := [.lit (.bool false)], args := [d1, d2] }
  | _ => none }
def FoureyesExpiresWrongFalsely : Prop := foureyesExpiresRow.holds Try.pinned (OpenSpec.ofChange foureyesExpiresWrong)

/-- 'corebanklaw47.FoureyesOnce': WHATEVER THE INPUT: true; the input reads as it did. -/
def foureyesOnceSpec : ChangeSpec := { name := "foureyesOnce", fn := fun _ => fun
  | [d1, d2, d3] => { results := [.lit (.bool true)], args := [d1, d2, d3] }
  | _ => none }
def foureyesOnceRow : OpenClaim := { program := "ythonmlhljdhlbaa", sum := "ffc3d05cbebf283bf34465969b06e72cd3a72754ecc230f7d8f968f30150af07", func := "corebank/corebanklaw47.FoureyesOnce", spec := "foureyesOnce", unfollowed := true, recurses := true, apart := false }
def FoureyesOnceSaid : Prop := foureyesOnceRow.holds Try.pinned (OpenSpec.ofChange foureyesOnceSpec)

/-- ITS FALSE NEIGHBOUR: 'it returns false'. Refute it at one input. -/
def foureyesOnceWrong : ChangeSpec := { name := "foureyesOnce", fn := fun _ => fun
  | [d1, d2, d3] => { results := [.lit (.bool false)], args := [d1, d2, d3] }
  | _ => none }
def FoureyesOnceWrongFalsely : Prop := foureyesOnceRow.holds Try.pinned (OpenSpec.ofChange foureyesOnceWrong)

/- THE SECOND FORM. 'bulk': how many values and letters a reading holds, each counted each time it is reached (what is shared counts as often as it is met; a slice's spare places count too). A statement '..UptoSaid' is the law's where the arguments, and the package variables that the reading takes, are together of bulk at most 1048576: NARROWER than '..Said'. Prove '..Said' where nothing that the law and all that it calls make is longer than what came in: it says more and counts as full. Else prove '..UptoSaid'. A law counts once. -/
mutual
def uptoBulk {H : Type} : DataW H → Nat
  | .lit (.string bytes) => bytes.length + 1
  | .lit _ => 1
  | .nil => 1
  | .ptr d => uptoBulk d + 1
  | .slice elems spare => uptoBulkAll elems + uptoBulkAll spare + 1
  | .agg parts => uptoBulkAll parts + 1
  | .iface _ d => uptoBulk d + 1
  | .map entries => uptoBulkEntries entries + 1
  | .held _ => 1
def uptoBulkAll {H : Type} : List (DataW H) → Nat
  | [] => 0
  | d :: r => uptoBulk d + uptoBulkAll r
def uptoBulkEntries {H : Type} : List (Lit × DataW H) → Nat
  | [] => 0
  | x :: r => uptoBulkEntry x + uptoBulkEntries r
def uptoBulkEntry {H : Type} : Lit × DataW H → Nat
  | (.string bytes, d) => bytes.length + uptoBulk d + 1
  | (_, d) => uptoBulk d + 1
 end
def uptoSmall : (H : Type) → List (DataW H) → Bool := fun _ ds => decide (uptoBulkAll ds ≤ 1048576)
def OpenSpec.upto (s : _root_.Go.ChangeSpec) : _root_.Go.OpenSpec := { _root_.Go.OpenSpec.ofChange s with cond := some uptoSmall }

/-- 'corebanklaw47.FoureyesChecks', WHERE WHAT IT READS IS OF BULK AT MOST 1048576: true; the input reads as it did. -/
def foureyesChecksUptoRow : OpenClaim := { program := "ythonmlhljdhlbaa", sum := "ffc3d05cbebf283bf34465969b06e72cd3a72754ecc230f7d8f968f30150af07", func := "corebank/corebanklaw47.FoureyesChecks", spec := "foureyesChecks", unfollowed := true, recurses := true, apart := false, narrowed := true }
def FoureyesChecksUptoSaid : Prop := foureyesChecksUptoRow.holds Try.pinned (OpenSpec.upto foureyesChecksSpec)

/-- 'corebanklaw47.FoureyesProposes', WHERE WHAT IT READS IS OF BULK AT MOST 1048576: true; the input reads as it did. -/
def foureyesProposesUptoRow : OpenClaim := { program := "ythonmlhljdhlbaa", sum := "ffc3d05cbebf283bf34465969b06e72cd3a72754ecc230f7d8f968f30150af07", func := "corebank/corebanklaw47.FoureyesProposes", spec := "foureyesProposes", unfollowed := true, recurses := true, apart := false, narrowed := true }
def FoureyesProposesUptoSaid : Prop := foureyesProposesUptoRow.holds Try.pinned (OpenSpec.upto foureyesProposesSpec)

/-- 'corebanklaw47.FoureyesApproves', WHERE WHAT IT READS IS OF BULK AT MOST 1048576: true; the input reads as it did. -/
def foureyesApprovesUptoRow : OpenClaim := { program := "ythonmlhljdhlbaa", sum := "ffc3d05cbebf283bf34465969b06e72cd3a72754ecc230f7d8f968f30150af07", func := "corebank/corebanklaw47.FoureyesApproves", spec := "foureyesApproves", unfollowed := true, recurses := true, apart := false, narrowed := true }
def FoureyesApprovesUptoSaid : Prop := foureyesApprovesUptoRow.holds Try.pinned (OpenSpec.upto foureyesApprovesSpec)

/-- 'corebanklaw47.FoureyesTwo', WHERE WHAT IT READS IS OF BULK AT MOST 1048576: true; the input reads as it did. -/
def foureyesTwoUptoRow : OpenClaim := { program := "ythonmlhljdhlbaa", sum := "ffc3d05cbebf283bf34465969b06e72cd3a72754ecc230f7d8f968f30150af07", func := "corebank/corebanklaw47.FoureyesTwo", spec := "foureyesTwo", unfollowed := true, recurses := true, apart := false, narrowed := true }
def FoureyesTwoUptoSaid : Prop := foureyesTwoUptoRow.holds Try.pinned (OpenSpec.upto foureyesTwoSpec)

/-- 'corebanklaw47.FoureyesExpires', WHERE WHAT IT READS IS OF BULK AT MOST 1048576: true; the input reads as it did. -/
def foureyesExpiresUptoRow : OpenClaim := { program := "ythonmlhljdhlbaa", sum := "ffc3d05cbebf283bf34465969b06e72cd3a72754ecc230f7d8f968f30150af07", func := "corebank/corebanklaw47.FoureyesExpires", spec := "foureyesExpires", unfollowed := true, recurses := true, apart := false, narrowed := true }
def FoureyesExpiresUptoSaid : Prop := foureyesExpiresUptoRow.holds Try.pinned (OpenSpec.upto foureyesExpiresSpec)

/-- 'corebanklaw47.FoureyesOnce', WHERE WHAT IT READS IS OF BULK AT MOST 1048576: true; the input reads as it did. -/
def foureyesOnceUptoRow : OpenClaim := { program := "ythonmlhljdhlbaa", sum := "ffc3d05cbebf283bf34465969b06e72cd3a72754ecc230f7d8f968f30150af07", func := "corebank/corebanklaw47.FoureyesOnce", spec := "foureyesOnce", unfollowed := true, recurses := true, apart := false, narrowed := true }
def FoureyesOnceUptoSaid : Prop := foureyesOnceUptoRow.holds Try.pinned (OpenSpec.upto foureyesOnceSpec)

end Rows
end Go.Proofs.Ythonmlhljdhlbaa
