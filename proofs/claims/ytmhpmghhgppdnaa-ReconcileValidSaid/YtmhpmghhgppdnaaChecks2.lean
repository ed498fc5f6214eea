/-
  The law on Valid answers true for every input, and its arguments read as they did.
-/
import Derived.Test.YtmhpmghhgppdnaaChecks
import Derived.Test.YtmhpmghhgppdnaaEq5
namespace Go.Proofs.Ytmhpmghhgppdnaa
open Go.ChangeShapes Go.WideShapes Go.ChangeAt Go.RowKit Go.VM

theorem arg25 {ys : List V} (h : Fit Try.prog 12 25 ys) : ∃ l : List Pair, ys = [.l (encL Pair.v l)] ∧ l.length ≤ maxLen ∧ ∀ y ∈ l, y.ok := fitS25 (n := 9) h
theorem pairs_tris (l : List Pair) : encL Pair.v l = tris (l.map fun p => (p.ours, p.theirs, p.how)) := by
  simp [encL, tris, triV]
theorem pf4 (xs : List V) (h : FitAll Try.prog [22, 22, 25] xs) : PF Try.prog 4 xs (.b true) := by
  obtain ⟨y1, r1, rfl, h1, y2, r2, rfl, h2, y3, r3, rfl, h3, rfl⟩ := h
  obtain ⟨a, rfl, _⟩ := arg22 h1
  obtain ⟨b, rfl, _⟩ := arg22 h2
  obtain ⟨l, rfl, _⟩ := arg25 h3
  rw [pack22, pack22, pack25, pairs_tris]
  exact (sound.2 4 _ _ (o4 live a b _)).2
set_option maxRecDepth 100000 in
theorem reconcileValid_lifted (os : Os) (started : os.Started) (H : Type) (enc : TypeId × Value → H) :
    ReturnsInHanded {} Try.checked os 4 .any (Rows.reconcileValidSpec.pre6 enc Try.prog Try.f4 Rows.reconcileValidRow.domain false) (Rows.reconcileValidSpec.post enc Try.prog Try.f4 false true false false) := by
  refine returnsInHanded_of_change (C := Try.checked) own started (by kernel_rfl) Try.func4
    (ChangeSpec.witness6 (enc := enc) (C := Try.checked) false ⟨#[], #[.slice none 0 0, .slice none 0 0, .slice none 0 0], []⟩ 8 (by kernel_rfl) (by kernel_rfl) (by kernel_rfl) (by kernel_rfl)) ?_
  intro W base args ds gs before hval hW _ _
  refine calls_true (P := Try.prog) laidOut ?_ ?_ (tb := 4) rfl Try.underlying4 rfl ?_ ?_ hval hW (fun _ h => by cases h)
  · rw [Try.params4]; simp only [List.mem_cons, List.not_mem_nil, or_false, forall_eq_or_imp, forall_eq]
    exact ⟨⟨by kernel_rfl, by decide +kernel⟩, ⟨by kernel_rfl, by decide +kernel⟩, ⟨by kernel_rfl, by decide +kernel⟩⟩
  · rw [Try.params4]; simp only [List.mem_cons, List.not_mem_nil, or_false, forall_eq_or_imp, forall_eq]
    exact ⟨by kernel_rfl, by kernel_rfl, by kernel_rfl⟩
  · rw [Try.params4]
    intro ds hd
    match ds, hd with
    | [d1, d2, d3], _ => rfl
  · rw [Try.params4]; exact pf4
theorem reconcileValid_holds : Rows.ReconcileValidSaid :=
  OpenClaim.holds_of_wide 4 Try.f4 rfl rfl rfl rfl rfl rfl rfl ⟨rfl, rfl, rfl, rfl, rfl⟩ rfl rfl rfl rfl rfl (by kernel_rfl) Try.func4 (by kernel_rfl)
    (of_decide_eq_true (by kernel_rfl)) (by unfold Func.isWrapper; first | (rw [if_pos (by decide +kernel)]; kernel_rfl) | (rw [if_neg (by decide +kernel)]; exact ⟨rfl, rfl⟩))
    (fun os started H enc _ => reconcileValid_lifted os started H enc)
#print axioms reconcileValid_holds
end Go.Proofs.Ytmhpmghhgppdnaa
