/-
  The theorem of the stage answers true for every input, and its arguments read as they did.
-/
import Derived.Test.YtmhpmghhgppdnaaChecks
import Derived.Test.YtmhpmghhgppdnaaEq8
namespace Go.Proofs.Ytmhpmghhgppdnaa
open Go.ChangeShapes Go.WideShapes Go.ChangeAt Go.RowKit Go.VM

theorem days_of {l : List Item} (h : ∀ y ∈ l, y.ok) : daysOk l := fun y hy => (h y hy).2.1
theorem pf6 (xs : List V) (h : FitAll Try.prog [22, 22] xs) : PF Try.prog 6 xs (.b true) := by
  obtain ⟨y1, r1, rfl, h1, y2, r2, rfl, h2, rfl⟩ := h
  obtain ⟨a, rfl, _, ha⟩ := arg22 h1
  obtain ⟨b, rfl, _, hb⟩ := arg22 h2
  rw [pack22, pack22]
  exact (sound.2 6 _ _ (o6 a b (days_of ha) (days_of hb))).2
set_option maxRecDepth 100000 in
theorem reconcileOneToOne_lifted (os : Os) (started : os.Started) (H : Type) (enc : TypeId × Value → H) :
    ReturnsInHanded {} Try.checked os 6 .any (Rows.reconcileOneToOneSpec.pre6 enc Try.prog Try.f6 Rows.reconcileOneToOneRow.domain false) (Rows.reconcileOneToOneSpec.post enc Try.prog Try.f6 false true false false) := by
  refine returnsInHanded_of_change (C := Try.checked) own started (by kernel_rfl) Try.func6
    (ChangeSpec.witness6 (enc := enc) (C := Try.checked) false ⟨#[], #[.slice none 0 0, .slice none 0 0], []⟩ 8 (by kernel_rfl) (by kernel_rfl) (by kernel_rfl) (by kernel_rfl)) ?_
  intro W base args ds gs before hval hW _ _
  refine calls_true (P := Try.prog) laidOut ?_ ?_ (tb := 4) rfl Try.underlying4 rfl ?_ ?_ hval hW (fun _ h => by cases h)
  · rw [Try.params6]; simp only [List.mem_cons, List.not_mem_nil, or_false, forall_eq_or_imp, forall_eq]
    exact ⟨⟨by kernel_rfl, by decide +kernel⟩, ⟨by kernel_rfl, by decide +kernel⟩⟩
  · rw [Try.params6]; simp only [List.mem_cons, List.not_mem_nil, or_false, forall_eq_or_imp, forall_eq]
    exact ⟨by kernel_rfl, by kernel_rfl⟩
  · rw [Try.params6]
    intro ds hd
    match ds, hd with
    | [d1, d2], _ => rfl
  · rw [Try.params6]; exact pf6
theorem reconcileOneToOne_holds : Rows.ReconcileOneToOneSaid :=
  OpenClaim.holds_of_wide 6 Try.f6 rfl rfl rfl rfl rfl rfl rfl ⟨rfl, rfl, rfl, rfl, rfl⟩ rfl rfl rfl rfl rfl (by kernel_rfl) Try.func6 (by kernel_rfl)
    (of_decide_eq_true (by kernel_rfl)) (by unfold Func.isWrapper; first | (rw [if_pos (by decide +kernel)]; kernel_rfl) | (rw [if_neg (by decide +kernel)]; exact ⟨rfl, rfl⟩))
    (fun os started H enc _ => reconcileOneToOne_lifted os started H enc)
#print axioms reconcileOneToOne_holds
end Go.Proofs.Ytmhpmghhgppdnaa
