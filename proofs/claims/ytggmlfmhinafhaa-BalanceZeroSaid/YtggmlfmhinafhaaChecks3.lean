/-
  The law on opposite journals answers true for every input.
-/
import Derived.Test.YtggmlfmhinafhaaRows
import Derived.Test.YtggmlfmhinafhaaChecked
import Derived.Test.YtggmlfmhinafhaaEq9
import Derived.Test.YtggmlfmhinafhaaChecks
import Derived.Test.YtggmlfmhinafhaaVmL
import Derived.ProofKit
namespace Go.Proofs.Ytggmlfmhinafhaa
open Go.ChangeShapes Go.WideShapes Go.ChangeAt Go.RowKit Go.VM
theorem pf7 (xs : List V) (h : FitAll Try.prog [22] xs) : PF Try.prog 7 xs (.b true) := by
  obtain ⟨y1, r1, rfl, h1, rfl⟩ := h
  obtain ⟨j, rfl, _, hj⟩ := arg22 h1
  rw [pack22]
  exact (soundX.2 7 _ _ (o7 j hj)).2
set_option maxRecDepth 100000 in
theorem balanceZero_lifted (os : Os) (started : os.Started) (H : Type) (enc : TypeId × Value → H) :
    ReturnsInHanded {} Try.checked os 7 .any (Rows.balanceZeroSpec.pre6 enc Try.prog Try.f7 Rows.balanceZeroRow.domain false) (Rows.balanceZeroSpec.post enc Try.prog Try.f7 false true false false) := by
  refine returnsInHanded_of_change (C := Try.checked) own started (by kernel_rfl) Try.func7
    (ChangeSpec.witness6 (enc := enc) (C := Try.checked) false ⟨#[], #[.slice none 0 0], []⟩ 8 (by kernel_rfl) (by kernel_rfl) (by kernel_rfl) (by kernel_rfl)) ?_
  intro W base args ds gs before hval hW _ _
  refine calls_true (P := Try.prog) laidOut ?_ ?_ (tb := 4) rfl Try.underlying4 rfl ?_ ?_ hval hW (fun _ h => by cases h)
  · rw [Try.params7]; simp only [List.mem_cons, List.not_mem_nil, or_false, forall_eq]
    exact ⟨by kernel_rfl, by decide +kernel⟩
  · rw [Try.params7]; simp only [List.mem_cons, List.not_mem_nil, or_false, forall_eq]
    kernel_rfl
  · rw [Try.params7]
    intro ds hd
    match ds, hd with
    | [d1], _ => rfl
  · rw [Try.params7]; exact pf7
theorem balanceZero_holds : Rows.BalanceZeroSaid :=
  OpenClaim.holds_of_wide 7 Try.f7 rfl rfl rfl rfl rfl rfl rfl ⟨rfl, rfl, rfl, rfl, rfl⟩ rfl rfl rfl rfl rfl (by kernel_rfl) Try.func7 (by kernel_rfl)
    (of_decide_eq_true (by kernel_rfl)) (by unfold Func.isWrapper; first | (rw [if_pos (by decide +kernel)]; kernel_rfl) | (rw [if_neg (by decide +kernel)]; exact ⟨rfl, rfl⟩))
    (fun os started H enc _ => balanceZero_lifted os started H enc)
#print axioms balanceZero_holds
end Go.Proofs.Ytggmlfmhinafhaa
