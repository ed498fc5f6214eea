/-
  No cell of these rows narrows 'for every input' (looked for: loops, veiled, ifaces, maps, wideKeys, modest, calm, conditions, laid).
  DERIVED. THE GIVEN ROWS OF THIS SEAT. 5 by the template 'for every input the law returns true; each argument reads behind the call as it read before'; 0 by the template 'total and deterministic' (their statements: YtggmlfmhinafhaaTotals.lean).
  GIVEN WITH THE SEED: the statements are not yours to turn. If you find one false, say at which input.
  Laid BY PROGRAM, IN A SANDBOX (cutbox-rows.mjs): the forced cells as the released guide's own fill.sh prints them over the translation fcf707a1d48e6eaa… (all of the seat's roots in one cut). By AI agents, Wed Nov 11 2026. No macro, syntax, notation, axiom, sorry.
-/
import Derived.Test.YtggmlfmhinafhaaChecked
import GoSem.Claim
import GoSem.ClaimJoined
import GoSem.ClaimMapViews
import Derived.JoinedTies
import Derived.KernelRfl
namespace Go.Proofs.Ytggmlfmhinafhaa
/- THE CELL 'sum', in the pinned program and in every row, IS THE sha256 OF THE DUMP (.gsa) THAT YtggmlfmhinafhaaProg.lean LOADS. Nothing in Lean hashes anything: it is a label: what it is worth is what the hold of that sum in a sandbox is worth. -/
noncomputable def Try.pinned : Pinned := { name := "ytggmlfmhinafhaa", sum := "fcf707a1d48e6eaa089064940fb244a9b2acbc971d854656a584f3f1b01c7da4", checked := Try.checked }
namespace Rows
def none {H : Type} : Left H := { results := [], args := [] }

/-- 'corebanklaw21.BalanceSums': WHATEVER THE INPUT: true; the input reads as it did. -/
def balanceSumsSpec : ChangeSpec := { name := "balanceSums", fn := fun _ => fun
  | [d1, d2] => { results := [.lit (.bool true)], args := [d1, d2] }
  | _ => none }
def balanceSumsRow : OpenClaim := { program := "ytggmlfmhinafhaa", sum := "fcf707a1d48e6eaa089064940fb244a9b2acbc971d854656a584f3f1b01c7da4", func := "corebank/corebanklaw21.BalanceSums", spec := "balanceSums", unfollowed := true, recurses := true, plainKeys := false, apart := false }
def BalanceSumsSaid : Prop := balanceSumsRow.holds Try.pinned (OpenSpec.ofChange balanceSumsSpec)

/-- ITS FALSE NEIGHBOUR: 'it returns false'. Refute it at one input. -/
def balanceSumsWrong : ChangeSpec := { name := "balanceSums", fn := fun _ => fun
  | [d1, d2] => { results := [.lit (.bool false)], args := [d1, d2] }
  | _ => none }
def BalanceSumsWrongFalsely : Prop := balanceSumsRow.holds Try.pinned (OpenSpec.ofChange balanceSumsWrong)

/-- 'corebanklaw21.BalanceDays': WHATEVER THE INPUT: true; the input reads as it did. -/
def balanceDaysSpec : ChangeSpec := { name := "balanceDays", fn := fun _ => fun
  | [d1, d2] => { results := [.lit (.bool true)], args := [d1, d2] }
  | _ => none }
def balanceDaysRow : OpenClaim := { program := "ytggmlfmhinafhaa", sum := "fcf707a1d48e6eaa089064940fb244a9b2acbc971d854656a584f3f1b01c7da4", func := "corebank/corebanklaw21.BalanceDays", spec := "balanceDays", unfollowed := true, recurses := true, plainKeys := false, apart := false }
def BalanceDaysSaid : Prop := balanceDaysRow.holds Try.pinned (OpenSpec.ofChange balanceDaysSpec)

/-- ITS FALSE NEIGHBOUR: 'it returns false'. Refute it at one input. -/
def balanceDaysWrong : ChangeSpec := { name := "balanceDays", fn := fun _ => fun
  | [d1, d2] => { results := [.lit (.bool false)], args := [d1, d2] }
  | _ => none }
def BalanceDaysWrongFalsely : Prop := balanceDaysRow.holds Try.pinned (OpenSpec.ofChange balanceDaysWrong)

/-- 'corebanklaw21.BalanceTrial': WHATEVER THE INPUT: true; the input reads as it did. -/
def balanceTrialSpec : ChangeSpec := { name := "balanceTrial", fn := fun _ => fun
  | [d] => { results := [.lit (.bool true)], args := [d] }
  | _ => none }
def balanceTrialRow : OpenClaim := { program := "ytggmlfmhinafhaa", sum := "fcf707a1d48e6eaa089064940fb244a9b2acbc971d854656a584f3f1b01c7da4", func := "corebank/corebanklaw21.BalanceTrial", spec := "balanceTrial", unfollowed := true, recurses := true, plainKeys := false, apart := false }
def BalanceTrialSaid : Prop := balanceTrialRow.holds Try.pinned (OpenSpec.ofChange balanceTrialSpec)

/-- ITS FALSE NEIGHBOUR: 'it returns false'. Refute it at one input. -/
def balanceTrialWrong : ChangeSpec := { name := "balanceTrial", fn := fun _ => fun
  | [d] => { results := [.lit (.bool false)], args := [d] }
  | _ => none }
def BalanceTrialWrongFalsely : Prop := balanceTrialRow.holds Try.pinned (OpenSpec.ofChange balanceTrialWrong)

/-- 'corebanklaw21.BalanceAdds': WHATEVER THE INPUT: true; the input reads as it did. -/
def balanceAddsSpec : ChangeSpec := { name := "balanceAdds", fn := fun _ => fun
  | [d1, d2, d3] => { results := [.lit (.bool true)], args := [d1, d2, d3] }
  | _ => none }
def balanceAddsRow : OpenClaim := { program := "ytggmlfmhinafhaa", sum := "fcf707a1d48e6eaa089064940fb244a9b2acbc971d854656a584f3f1b01c7da4", func := "corebank/corebanklaw21.BalanceAdds", spec := "balanceAdds", unfollowed := true, recurses := true, plainKeys := false, apart := false }
def BalanceAddsSaid : Prop := balanceAddsRow.holds Try.pinned (OpenSpec.ofChange balanceAddsSpec)

/-- ITS FALSE NEIGHBOUR: 'it returns false'. Refute it at one input. -/
def balanceAddsWrong : ChangeSpec := { name := "balanceAdds", fn := fun _ => fun
  | [d1, d2, d3] => { results := [.lit (.bool false)], args := [d1, d2, d3] }
  | _ => none }
def BalanceAddsWrongFalsely : Prop := balanceAddsRow.holds Try.pinned (OpenSpec.ofChange balanceAddsWrong)

/-- 'corebanklaw21.BalanceZero': WHATEVER THE INPUT: true; the input reads as it did. -/
def balanceZeroSpec : ChangeSpec := { name := "balanceZero", fn := fun _ => fun
  | [d] => { results := [.lit (.bool true)], args := [d] }
  | _ => none }
def balanceZeroRow : OpenClaim := { program := "ytggmlfmhinafhaa", sum := "fcf707a1d48e6eaa089064940fb244a9b2acbc971d854656a584f3f1b01c7da4", func := "corebank/corebanklaw21.BalanceZero", spec := "balanceZero", unfollowed := true, recurses := true, plainKeys := false, apart := false }
def BalanceZeroSaid : Prop := balanceZeroRow.holds Try.pinned (OpenSpec.ofChange balanceZeroSpec)

/-- ITS FALSE NEIGHBOUR: 'it returns false'. Refute it at one input. -/
def balanceZeroWrong : ChangeSpec := { name := "balanceZero", fn := fun _ => fun
  | [d] => { results := [.lit (.bool false)], args := [d] }
  | _ => none }
def BalanceZeroWrongFalsely : Prop := balanceZeroRow.holds Try.pinned (OpenSpec.ofChange balanceZeroWrong)

/- THE SECOND FORM. 'bulk': how many values and letters a reading holds, each counted each time it is reached (what is shared counts as often as it is met; a slice's spare places count too). A statement '..UptoSaid' is the law's where the arguments, and the package variables that the reading takes, are together of bulk at most 1048576: NARROWER than '..Said'. Prove '..Said' where nothing that the law and all that it calls make is longer than what came in: it says more and counts as full. Else prove '..UptoSaid'. A law counts once. -/
mutual
def uptoBulk {H : Type} : DataW H → Nat
  | .lit (.string bytes) => bytes.length + 1
  | .lit _ => 1
  | .nil => 1
  | .ptr d => uptoBulk d + 1
  | .slice elems spare => uptoBulkAll elems + uptoBulkAll spare + 1
  | .agg parts => uptoBulkAll parts + 1
  | .iface _ d => uptoBulk d + 1
  | .map entries => uptoBulkEntries entries + 1
  | .held _ => 1
def uptoBulkAll {H : Type} : List (DataW H) → Nat
  | [] => 0
  | d :: r => uptoBulk d + uptoBulkAll r
def uptoBulkEntries {H : Type} : List (Lit × DataW H) → Nat
  | [] => 0
  | x :: r => uptoBulkEntry x + uptoBulkEntries r
def uptoBulkEntry {H : Type} : Lit × DataW H → Nat
  | (.string bytes, d) => bytes.length + uptoBulk d + 1
  | (_, d) => uptoBulk d + 1
 end
def uptoSmall : (H : Type) → List (DataW H) → Bool := fun _ ds => decide (uptoBulkAll ds ≤ 1048576)
def OpenSpec.upto (s : _root_.Go.ChangeSpec) : _root_.Go.OpenSpec := { _root_.Go.OpenSpec.ofChange s with cond := some uptoSmall }

/-- 'corebanklaw21.BalanceSums', WHERE WHAT IT READS IS OF BULK AT MOST 1048576: true; the input reads as it did. -/
def balanceSumsUptoRow : OpenClaim := { program := "ytggmlfmhinafhaa", sum := "fcf707a1d48e6eaa089064940fb244a9b2acbc971d854656a584f3f1b01c7da4", func := "corebank/corebanklaw21.BalanceSums", spec := "balanceSums", unfollowed := true, recurses := true, plainKeys := false, apart := false, narrowed := true }
def BalanceSumsUptoSaid : Prop := balanceSumsUptoRow.holds Try.pinned (OpenSpec.upto balanceSumsSpec)

/-- 'corebanklaw21.BalanceDays', WHERE WHAT IT READS IS OF BULK AT MOST 1048576: true; the input reads as it did. -/
def balanceDaysUptoRow : OpenClaim := { program := "ytggmlfmhinafhaa", sum := "fcf707a1d48e6eaa089064940fb244a9b2acbc971d854656a584f3f1b01c7da4", func := "corebank/corebanklaw21.BalanceDays", spec := "balanceDays", unfollowed := true, recurses := true, plainKeys := false, apart := false, narrowed := true }
def BalanceDaysUptoSaid : Prop := balanceDaysUptoRow.holds Try.pinned (OpenSpec.upto balanceDaysSpec)

/-- 'corebanklaw21.BalanceTrial', WHERE WHAT IT READS IS OF BULK AT MOST 1048576: true; the input reads as it did. -/
def balanceTrialUptoRow : OpenClaim := { program := "ytggmlfmhinafhaa", sum := "fcf707a1d48e6eaa089064940fb244a9b2acbc971d854656a584f3f1b01c7da4", func := "corebank/corebanklaw21.BalanceTrial", spec := "balanceTrial", unfollowed := true, recurses := true, plainKeys := false, apart := false, narrowed := true }
def BalanceTrialUptoSaid : Prop := balanceTrialUptoRow.holds Try.pinned (OpenSpec.upto balanceTrialSpec)

/-- 'corebanklaw21.BalanceAdds', WHERE WHAT IT READS IS OF BULK AT MOST 1048576: true; the input reads as it did. -/
def balanceAddsUptoRow : OpenClaim := { program := "ytggmlfmhinafhaa", sum := "fcf707a1d48e6eaa089064940fb244a9b2acbc971d854656a584f3f1b01c7da4", func := "corebank/corebanklaw21.BalanceAdds", spec := "balanceAdds", unfollowed := true, recurses := true, plainKeys := false, apart := false, narrowed := true }
def BalanceAddsUptoSaid : Prop := balanceAddsUptoRow.holds Try.pinned (OpenSpec.upto balanceAddsSpec)

/-- 'corebanklaw21.BalanceZero', WHERE WHAT IT READS IS OF BULK AT MOST 1048576: true; the input reads as it did. -/
def balanceZeroUptoRow : OpenClaim := { program := "ytggmlfmhinafhaa", sum := "fcf707a1d48e6eaa089064940fb244a9b2acbc971d854656a584f3f1b01c7da4", func := "corebank/corebanklaw21.BalanceZero", spec := "balanceZero", unfollowed := true, recurses := true, plainKeys := false, apart := false, narrowed := true }
def BalanceZeroUptoSaid : Prop := balanceZeroUptoRow.holds Try.pinned (OpenSpec.upto balanceZeroSpec)

end Rows
end Go.Proofs.Ytggmlfmhinafhaa
