/-
  The library function that writes into its argument: slices.Reverse.
-/
import Derived.Test.YtmhbkofbbkogeaaGreatCode
import Derived.Test.YtmhbkofbbkogeaaGreatLaid
namespace Go.Proofs.YtmhbkofbbkogeaaGreat
open Go.VM
theorem mutOK : MutOK Tryz.prog := by
  intro f mu hl
  have hc : f = 92 ∧ mu = ⟨3, false, false, revRun, 0⟩ := by
    simp only [Glob.muts, List.lookup] at hl
    split at hl
    · rename_i h; exact ⟨by simpa using h, (Option.some.inj hl).symm⟩
    · cases hl
  obtain ⟨rfl, rfl⟩ := hc
  exact ⟨by kernel_rfl, fun es xs es' h => (rev_PFM (e := 3) Tryz.lays112 (by kernel_rfl) es xs es' h).p⟩
end Go.Proofs.YtmhbkofbbkogeaaGreat
