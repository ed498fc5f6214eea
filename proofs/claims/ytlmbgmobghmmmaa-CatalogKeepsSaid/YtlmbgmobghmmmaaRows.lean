/-
  NARROWER THAN 'FOR EVERY INPUT', by the rows' own cells (each row's printed sentence says how): CatalogChecks: loops · CatalogAdds: loops · CatalogFinds: loops · CatalogChanges: loops · CatalogLatest: loops · CatalogKeeps: loops.
  DERIVED. THE GIVEN ROWS OF THIS SEAT. 6 by the template 'for every input the law returns true; each argument reads behind the call as it read before'; 0 by the template 'total and deterministic' (their statements: YtlmbgmobghmmmaaTotals.lean).
  GIVEN WITH THE SEED: the statements are not yours to turn. If you find one false, say at which input.
  Laid BY PROGRAM, IN A SANDBOX (cutbox-rows.mjs): the forced cells as the released guide's own fill.sh prints them over the translation aeb06cab1250efdc… (all of the seat's roots in one cut). By AI agents, Wed Nov 11 2026. No macro, syntax, notation, axiom, sorry.
-/
import Derived.Test.YtlmbgmobghmmmaaChecked
import GoSem.Claim
import GoSem.ClaimJoined
import GoSem.ClaimMapViews
import Derived.JoinedTies
import Derived.KernelRfl
namespace Go.Proofs.Ytlmbgmobghmmmaa
/- THE CELL 'sum', in the pinned program and in every row, IS THE sha256 OF THE DUMP (.gsa) THAT YtlmbgmobghmmmaaProg.lean LOADS. Nothing in Lean hashes anything: it is a label: what it is worth is what the hold of that sum in a sandbox is worth. -/
noncomputable def Try.pinned : Pinned := { name := "ytlmbgmobghmmmaa", sum := "aeb06cab1250efdc444c696f448b327b339474c527e85e12e16edc4a43a7a815", checked := Try.checked }
namespace Rows
def none {H : Type} : Left H := { results := [], args := [] }

/-- 'corebanklaw17.CatalogChecks': WHATEVER THE INPUT: true; the input reads as it did. -/
def catalogChecksSpec : ChangeSpec := { name := "catalogChecks", fn := fun _ => fun
  | [d] => { results := [.lit (.bool true)], args := [d] }
  | _ => none }
def catalogChecksRow : OpenClaim := { program := "ytlmbgmobghmmmaa", sum := "aeb06cab1250efdc444c696f448b327b339474c527e85e12e16edc4a43a7a815", func := "corebank/corebanklaw17.CatalogChecks", spec := "catalogChecks", inPlace := ["slices.overlaps[corebank/api.Product]"], unfollowed := true, recurses := true, loops := true, apart := false }
def CatalogChecksSaid : Prop := catalogChecksRow.holds Try.pinned (OpenSpec.ofChange catalogChecksSpec)

/-- ITS FALSE NEIGHBOUR: 'it returns false'. Refute it at one input. -/
def catalogChecksWrong : ChangeSpec := { name := "catalogChecks", fn := fun _ => fun
  | [d] => { results := [.lit (.bool false)], args := [d] }
  | _ => none }
def CatalogChecksWrongFalsely : Prop := catalogChecksRow.holds Try.pinned (OpenSpec.ofChange catalogChecksWrong)

/-- 'corebanklaw17.CatalogAdds': WHATEVER THE INPUT: true; the input reads as it did. -/
def catalogAddsSpec : ChangeSpec := { name := "catalogAdds", fn := fun _ => fun
  | [d1, d2] => { results := [.lit (.bool true)], args := [d1, d2] }
  | _ => none }
def catalogAddsRow : OpenClaim := { program := "ytlmbgmobghmmmaa", sum := "aeb06cab1250efdc444c696f448b327b339474c527e85e12e16edc4a43a7a815", func := "corebank/corebanklaw17.CatalogAdds", spec := "catalogAdds", inPlace := ["slices.overlaps[corebank/api.Product]"], unfollowed := true, recurses := true, loops := true, apart := false }
def CatalogAddsSaid : Prop := catalogAddsRow.holds Try.pinned (OpenSpec.ofChange catalogAddsSpec)

/-- ITS FALSE NEIGHBOUR: 'it returns false'. Refute it at one input. -/
def catalogAddsWrong : ChangeSpec := { name := "catalogAdds", fn := fun _ => fun
  | [d1, d2] => { results := [.lit (.bool false)], args := [d1, d2] }
  | _ => none }
def CatalogAddsWrongFalsely : Prop := catalogAddsRow.holds Try.pinned (OpenSpec.ofChange catalogAddsWrong)

/-- 'corebanklaw17.CatalogFinds': WHATEVER THE INPUT: true; the input reads as it did. -/
def catalogFindsSpec : ChangeSpec := { name := "catalogFinds", fn := fun _ => fun
  | [d1, d2, d3] => { results := [.lit (.bool true)], args := [d1, d2, d3] }
  | _ => none }
def catalogFindsRow : OpenClaim := { program := "ytlmbgmobghmmmaa", sum := "aeb06cab1250efdc444c696f448b327b339474c527e85e12e16edc4a43a7a815", func := "corebank/corebanklaw17.CatalogFinds", spec := "catalogFinds", inPlace := ["slices.overlaps[corebank/api.Product]"], unfollowed := true, recurses := true, loops := true, apart := false }
def CatalogFindsSaid : Prop := catalogFindsRow.holds Try.pinned (OpenSpec.ofChange catalogFindsSpec)

/-- ITS FALSE NEIGHBOUR: 'it returns false'. Refute it at one input. -/
def catalogFindsWrong : ChangeSpec := { name := "catalogFinds", fn := fun _ => fun
  | [d1, d2, d3] => { results := [.lit (.bool false)], args := [d1, d2, d3] }
  | _ => none }
def CatalogFindsWrongFalsely : Prop := catalogFindsRow.holds Try.pinned (OpenSpec.ofChange catalogFindsWrong)

/-- 'corebanklaw17.CatalogChanges': WHATEVER THE INPUT: true; the input reads as it did. -/
def catalogChangesSpec : ChangeSpec := { name := "catalogChanges", fn := fun _ => fun
  | [d1, d2, d3] => { results := [.lit (.bool true)], args := [d1, d2, d3] }
  | _ => none }
def catalogChangesRow : OpenClaim := { program := "ytlmbgmobghmmmaa", sum := "aeb06cab1250efdc444c696f448b327b339474c527e85e12e16edc4a43a7a815", func := "corebank/corebanklaw17.CatalogChanges", spec := "catalogChanges", inPlace := ["slices.overlaps[corebank/api.Product]"], unfollowed := true, recurses := true, loops := true, apart := false }
def CatalogChangesSaid : Prop := catalogChangesRow.holds Try.pinned (OpenSpec.ofChange catalogChangesSpec)

/-- ITS FALSE NEIGHBOUR: 'it returns false'. Refute it at one input. -/
def catalogChangesWrong : ChangeSpec := { name := "catalogChanges", fn := fun _ => fun
  | [d1, d2, d3] => { results := [.lit (.bool false)], args := [d1, d2, d3] }
  | _ => none }
def CatalogChangesWrongFalsely : Prop := catalogChangesRow.holds Try.pinned (OpenSpec.ofChange catalogChangesWrong)

/-- 'corebanklaw17.CatalogLatest': WHATEVER THE INPUT: true; the input reads as it did. -/
def catalogLatestSpec : ChangeSpec := { name := "catalogLatest", fn := fun _ => fun
  | [d1, d2, d3] => { results := [.lit (.bool true)], args := [d1, d2, d3] }
  | _ => none }
def catalogLatestRow : OpenClaim := { program := "ytlmbgmobghmmmaa", sum := "aeb06cab1250efdc444c696f448b327b339474c527e85e12e16edc4a43a7a815", func := "corebank/corebanklaw17.CatalogLatest", spec := "catalogLatest", inPlace := ["slices.overlaps[corebank/api.Product]"], unfollowed := true, recurses := true, loops := true, apart := false }
def CatalogLatestSaid : Prop := catalogLatestRow.holds Try.pinned (OpenSpec.ofChange catalogLatestSpec)

/-- ITS FALSE NEIGHBOUR: 'it returns false'. Refute it at one input. -/
def catalogLatestWrong : ChangeSpec := { name := "catalogLatest", fn := fun _ => fun
  | [d1, d2, d3] => { results := [.lit (.bool false)], args := [d1, d2, d3] }
  | _ => none }
def CatalogLatestWrongFalsely : Prop := catalogLatestRow.holds Try.pinned (OpenSpec.ofChange catalogLatestWrong)

/-- 'corebanklaw17.CatalogKeeps': WHATEVER THE INPUT: true; the input reads as it did. -/
def catalogKeepsSpec : ChangeSpec := { name := "catalogKeeps", fn := fun _ => fun
  | [d1, d2, d3] => { results := [.lit (.bool true)], args := [d1, d2, d3] }
  | _ => none }
def catalogKeepsRow : OpenClaim := { program := "ytlmbgmobghmmmaa", sum := "aeb06cab1250efdc444c696f448b327b339474c527e85e12e16edc4a43a7a815", func := "corebank/corebanklaw17.CatalogKeeps", spec := "catalogKeeps", inPlace := ["slices.overlaps[corebank/api.Product]"], unfollowed := true, recurses := true, loops := true, apart := false }
def CatalogKeepsSaid : Prop := catalogKeepsRow.holds Try.pinned (OpenSpec.ofChange catalogKeepsSpec)

/-- ITS FALSE NEIGHBOUR: 'it returns false'. Refute it at one input. -/
def catalogKeepsWrong : ChangeSpec := { name := "catalogKeeps", fn := fun _ => fun
  | [d1, d2, d3] => { results := [.lit (.bool false)], args := [d1, d2, d3] }
  | _ => none }
def CatalogKeepsWrongFalsely : Prop := catalogKeepsRow.holds Try.pinned (OpenSpec.ofChange catalogKeepsWrong)

/- THE SECOND FORM. 'bulk': how many values and letters a reading holds, each counted each time it is reached (what is shared counts as often as it is met; a slice's spare places count too). A statement '..UptoSaid' is the law's where the arguments, and the package variables that the reading takes, are together of bulk at most 1048576: NARROWER than '..Said'. Prove '..Said' where nothing that the law and all that it calls make is longer than what came in: it says more and counts as full. Else prove '..UptoSaid'. A law counts once. -/
mutual
def uptoBulk {H : Type} : DataW H → Nat
  | .lit (.string bytes) => bytes.length + 1
  | .lit _ => 1
  | .nil => 1
  | .ptr d => uptoBulk d + 1
  | .slice elems spare => uptoBulkAll elems + uptoBulkAll spare + 1
  | .agg parts => uptoBulkAll parts + 1
  | .iface _ d => uptoBulk d + 1
  | .map entries => uptoBulkEntries entries + 1
  | .held _ => 1
def uptoBulkAll {H : Type} : List (DataW H) → Nat
  | [] => 0
  | d :: r => uptoBulk d + uptoBulkAll r
def uptoBulkEntries {H : Type} : List (Lit × DataW H) → Nat
  | [] => 0
  | x :: r => uptoBulkEntry x + uptoBulkEntries r
def uptoBulkEntry {H : Type} : Lit × DataW H → Nat
  | (.string bytes, d) => bytes.length + uptoBulk d + 1
  | (_, d) => uptoBulk d + 1
 end
def uptoSmall : (H : Type) → List (DataW H) → Bool := fun _ ds => decide (uptoBulkAll ds ≤ 1048576)
def OpenSpec.upto (s : _root_.Go.ChangeSpec) : _root_.Go.OpenSpec := { _root_.Go.OpenSpec.ofChange s with cond := some uptoSmall }

/-- 'corebanklaw17.CatalogChecks', WHERE WHAT IT READS IS OF BULK AT MOST 1048576: true; the input reads as it did. -/
def catalogChecksUptoRow : OpenClaim := { program := "ytlmbgmobghmmmaa", sum := "aeb06cab1250efdc444c696f448b327b339474c527e85e12e16edc4a43a7a815", func := "corebank/corebanklaw17.CatalogChecks", spec := "catalogChecks", inPlace := ["slices.overlaps[corebank/api.Product]"], unfollowed := true, recurses := true, loops := true, apart := false, narrowed := true }
def CatalogChecksUptoSaid : Prop := catalogChecksUptoRow.holds Try.pinned (OpenSpec.upto catalogChecksSpec)

/-- 'corebanklaw17.CatalogAdds', WHERE WHAT IT READS IS OF BULK AT MOST 1048576: true; the input reads as it did. -/
def catalogAddsUptoRow : OpenClaim := { program := "ytlmbgmobghmmmaa", sum := "aeb06cab1250efdc444c696f448b327b339474c527e85e12e16edc4a43a7a815", func := "corebank/corebanklaw17.CatalogAdds", spec := "catalogAdds", inPlace := ["slices.overlaps[corebank/api.Product]"], unfollowed := true, recurses := true, loops := true, apart := false, narrowed := true }
def CatalogAddsUptoSaid : Prop := catalogAddsUptoRow.holds Try.pinned (OpenSpec.upto catalogAddsSpec)

/-- 'corebanklaw17.CatalogFinds', WHERE WHAT IT READS IS OF BULK AT MOST 1048576: true; the input reads as it did. -/
def catalogFindsUptoRow : OpenClaim := { program := "ytlmbgmobghmmmaa", sum := "aeb06cab1250efdc444c696f448b327b339474c527e85e12e16edc4a43a7a815", func := "corebank/corebanklaw17.CatalogFinds", spec := "catalogFinds", inPlace := ["slices.overlaps[corebank/api.Product]"], unfollowed := true, recurses := true, loops := true, apart := false, narrowed := true }
def CatalogFindsUptoSaid : Prop := catalogFindsUptoRow.holds Try.pinned (OpenSpec.upto catalogFindsSpec)

/-- 'corebanklaw17.CatalogChanges', WHERE WHAT IT READS IS OF BULK AT MOST 1048576: true; the input reads as it did. -/
def catalogChangesUptoRow : OpenClaim := { program := "ytlmbgmobghmmmaa", sum := "aeb06cab1250efdc444c696f448b327b339474c527e85e12e16edc4a43a7a815", func := "corebank/corebanklaw17.CatalogChanges", spec := "catalogChanges", inPlace := ["slices.overlaps[corebank/api.Product]"], unfollowed := true, recurses := true, loops := true, apart := false, narrowed := true }
def CatalogChangesUptoSaid : Prop := catalogChangesUptoRow.holds Try.pinned (OpenSpec.upto catalogChangesSpec)

/-- 'corebanklaw17.CatalogLatest', WHERE WHAT IT READS IS OF BULK AT MOST 1048576: true; the input reads as it did. -/
def catalogLatestUptoRow : OpenClaim := { program := "ytlmbgmobghmmmaa", sum := "aeb06cab1250efdc444c696f448b327b339474c527e85e12e16edc4a43a7a815", func := "corebank/corebanklaw17.CatalogLatest", spec := "catalogLatest", inPlace := ["slices.overlaps[corebank/api.Product]"], unfollowed := true, recurses := true, loops := true, apart := false, narrowed := true }
def CatalogLatestUptoSaid : Prop := catalogLatestUptoRow.holds Try.pinned (OpenSpec.upto catalogLatestSpec)

/-- 'corebanklaw17.CatalogKeeps', WHERE WHAT IT READS IS OF BULK AT MOST 1048576: true; the input reads as it did. -/
def catalogKeepsUptoRow : OpenClaim := { program := "ytlmbgmobghmmmaa", sum := "aeb06cab1250efdc444c696f448b327b339474c527e85e12e16edc4a43a7a815", func := "corebank/corebanklaw17.CatalogKeeps", spec := "catalogKeeps", inPlace := ["slices.overlaps[corebank/api.Product]"], unfollowed := true, recurses := true, loops := true, apart := false, narrowed := true }
def CatalogKeepsUptoSaid : Prop := catalogKeepsUptoRow.holds Try.pinned (OpenSpec.upto catalogKeepsSpec)

end Rows
end Go.Proofs.Ytlmbgmobghmmmaa
