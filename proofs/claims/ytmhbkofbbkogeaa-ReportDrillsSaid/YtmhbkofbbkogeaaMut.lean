/-
  The library function that writes into its argument: slices.Reverse.
-/
import Derived.Test.YtmhbkofbbkogeaaCode
import Derived.Test.YtmhbkofbbkogeaaLaid
namespace Go.Proofs.Ytmhbkofbbkogeaa
open Go.VM
theorem mutOK : MutOK Try.prog := by
  intro f mu hl
  have hc : f = 56 ∧ mu = ⟨3, false, false, revRun⟩ := by
    simp only [Glob.muts, List.lookup] at hl
    split at hl
    · rename_i h; exact ⟨by simpa using h, (Option.some.inj hl).symm⟩
    · cases hl
  obtain ⟨rfl, rfl⟩ := hc
  exact ⟨by kernel_rfl, fun es xs es' h => rev_PFM (e := 3) Try.lays112 (by kernel_rfl) es xs es' h⟩
end Go.Proofs.Ytmhbkofbbkogeaa
