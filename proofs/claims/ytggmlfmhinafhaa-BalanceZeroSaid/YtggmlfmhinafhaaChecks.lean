/-
  The law on sums answers true for every input, and its arguments read as they did.
-/
import Derived.Test.YtggmlfmhinafhaaRows
import Derived.Test.YtggmlfmhinafhaaChecked
import Derived.Test.YtggmlfmhinafhaaEq3
import Derived.Test.YtggmlfmhinafhaaVmL
import Derived.ProofKit
namespace Go.Proofs.Ytggmlfmhinafhaa
open Go.ChangeShapes Go.WideShapes Go.ChangeAt Go.RowKit Go.VM
theorem arg22 {ys : List V} (h : Fit Try.prog 12 22 ys) : ∃ l : List Entry, ys = [.l (encL Entry.v l)] ∧ l.length ≤ maxLen ∧ ∀ y ∈ l, y.ok := fitS22 (n := 7) h
theorem arg24 {ys : List V} (h : Fit Try.prog 12 24 ys) : ∃ x : Ask, ys = x.cells ∧ x.ok := fitT24 (n := 10) h
theorem pf3 (xs : List V) (h : FitAll Try.prog [22, 24] xs) : PF Try.prog 3 xs (.b true) := by
  obtain ⟨y1, r1, rfl, h1, y2, r2, rfl, h2, rfl⟩ := h
  obtain ⟨j, rfl, _, hj⟩ := arg22 h1
  obtain ⟨s, rfl, _⟩ := arg24 h2
  rw [pack22, pack24]
  exact (soundX.2 3 _ _ (o3 j s hj)).2
theorem own : ownKnob Try.prog.godebug = none := by kernel_rfl
theorem laidOut : laidOutB Try.prog = true := by kernel_rfl
set_option maxRecDepth 100000 in
theorem balanceSums_lifted (os : Os) (started : os.Started) (H : Type) (enc : TypeId × Value → H) :
    ReturnsInHanded {} Try.checked os 3 .any (Rows.balanceSumsSpec.pre6 enc Try.prog Try.f3 Rows.balanceSumsRow.domain false) (Rows.balanceSumsSpec.post enc Try.prog Try.f3 false true false false) := by
  refine returnsInHanded_of_change (C := Try.checked) own started (by kernel_rfl) Try.func3
    (ChangeSpec.witness6 (enc := enc) (C := Try.checked) false ⟨#[], #[.slice none 0 0, .agg #[.int .i64 0, .int .i64 0, .int .i64 0]], []⟩ 8 (by kernel_rfl) (by kernel_rfl) (by kernel_rfl) (by kernel_rfl)) ?_
  intro W base args ds gs before hval hW _ _
  refine calls_true (P := Try.prog) laidOut ?_ ?_ (tb := 4) rfl Try.underlying4 rfl ?_ ?_ hval hW (fun _ h => by cases h)
  · rw [Try.params3]; simp only [List.mem_cons, List.not_mem_nil, or_false, forall_eq_or_imp, forall_eq]
    exact ⟨⟨by kernel_rfl, by decide +kernel⟩, ⟨by kernel_rfl, by decide +kernel⟩⟩
  · rw [Try.params3]; simp only [List.mem_cons, List.not_mem_nil, or_false, forall_eq_or_imp, forall_eq]
    exact ⟨by kernel_rfl, by kernel_rfl⟩
  · rw [Try.params3]
    intro ds hd
    match ds, hd with
    | [d1, d2], _ => rfl
  · rw [Try.params3]; exact pf3
theorem balanceSums_holds : Rows.BalanceSumsSaid :=
  OpenClaim.holds_of_wide 3 Try.f3 rfl rfl rfl rfl rfl rfl rfl ⟨rfl, rfl, rfl, rfl, rfl⟩ rfl rfl rfl rfl rfl (by kernel_rfl) Try.func3 (by kernel_rfl)
    (of_decide_eq_true (by kernel_rfl)) (by unfold Func.isWrapper; first | (rw [if_pos (by decide +kernel)]; kernel_rfl) | (rw [if_neg (by decide +kernel)]; exact ⟨rfl, rfl⟩))
    (fun os started H enc _ => balanceSums_lifted os started H enc)
#print axioms balanceSums_holds
end Go.Proofs.Ytggmlfmhinafhaa
