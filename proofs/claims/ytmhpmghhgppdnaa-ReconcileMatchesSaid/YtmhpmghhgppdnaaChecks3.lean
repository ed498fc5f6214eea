/-
  The law on Match answers true for every input, and its arguments read as they did.
-/
import Derived.Test.YtmhpmghhgppdnaaChecks
import Derived.Test.YtmhpmghhgppdnaaEq8
namespace Go.Proofs.Ytmhpmghhgppdnaa
open Go.ChangeShapes Go.WideShapes Go.ChangeAt Go.RowKit Go.VM

theorem days_of {l : List Item} (h : ∀ y ∈ l, y.ok) : daysOk l := fun y hy => (h y hy).2.1
theorem pf3 (xs : List V) (h : FitAll Try.prog [22, 22] xs) : PF Try.prog 3 xs (.b true) := by
  obtain ⟨y1, r1, rfl, h1, y2, r2, rfl, h2, rfl⟩ := h
  obtain ⟨a, rfl, _, ha⟩ := arg22 h1
  obtain ⟨b, rfl, _, hb⟩ := arg22 h2
  rw [pack22, pack22]
  exact (sound.2 3 _ _ (o3 a b (days_of ha) (days_of hb))).2
set_option maxRecDepth 100000 in
theorem reconcileMatches_lifted (os : Os) (started : os.Started) (H : Type) (enc : TypeId × Value → H) :
    ReturnsInHanded {} Try.checked os 3 .any (Rows.reconcileMatchesSpec.pre6 enc Try.prog Try.f3 Rows.reconcileMatchesRow.domain false) (Rows.reconcileMatchesSpec.post enc Try.prog Try.f3 false true false false) := by
  refine returnsInHanded_of_change (C := Try.checked) own started (by kernel_rfl) Try.func3
    (ChangeSpec.witness6 (enc := enc) (C := Try.checked) false ⟨#[], #[.slice none 0 0, .slice none 0 0], []⟩ 8 (by kernel_rfl) (by kernel_rfl) (by kernel_rfl) (by kernel_rfl)) ?_
  intro W base args ds gs before hval hW _ _
  refine calls_true (P := Try.prog) laidOut ?_ ?_ (tb := 4) rfl Try.underlying4 rfl ?_ ?_ hval hW (fun _ h => by cases h)
  · rw [Try.params3]; simp only [List.mem_cons, List.not_mem_nil, or_false, forall_eq_or_imp, forall_eq]
    exact ⟨⟨by kernel_rfl, by decide +kernel⟩, ⟨by kernel_rfl, by decide +kernel⟩⟩
  · rw [Try.params3]; simp only [List.mem_cons, List.not_mem_nil, or_false, forall_eq_or_imp, forall_eq]
    exact ⟨by kernel_rfl, by kernel_rfl⟩
  · rw [Try.params3]
    intro ds hd
    match ds, hd with
    | [d1, d2], _ => rfl
  · rw [Try.params3]; exact pf3
theorem reconcileMatches_holds : Rows.ReconcileMatchesSaid :=
  OpenClaim.holds_of_wide 3 Try.f3 rfl rfl rfl rfl rfl rfl rfl ⟨rfl, rfl, rfl, rfl, rfl⟩ rfl rfl rfl rfl rfl (by kernel_rfl) Try.func3 (by kernel_rfl)
    (of_decide_eq_true (by kernel_rfl)) (by unfold Func.isWrapper; first | (rw [if_pos (by decide +kernel)]; kernel_rfl) | (rw [if_neg (by decide +kernel)]; exact ⟨rfl, rfl⟩))
    (fun os started H enc _ => reconcileMatches_lifted os started H enc)
#print axioms reconcileMatches_holds
end Go.Proofs.Ytmhpmghhgppdnaa
