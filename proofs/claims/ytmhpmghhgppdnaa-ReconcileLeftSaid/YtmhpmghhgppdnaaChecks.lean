/-
  The laws on gaps and items answer true for every input, and their arguments read as they did.
-/
import Derived.Test.YtmhpmghhgppdnaaRows
import Derived.Test.YtmhpmghhgppdnaaChecked
import Derived.Test.YtmhpmghhgppdnaaExt
import Derived.Test.YtmhpmghhgppdnaaMut
import Derived.Test.YtmhpmghhgppdnaaEq2
import Derived.Test.YtmhpmghhgppdnaaVmL
import Derived.ProofKit
namespace Go.Proofs.Ytmhpmghhgppdnaa
open Go.ChangeShapes Go.WideShapes Go.ChangeAt Go.RowKit Go.VM

theorem arg22 {ys : List V} (h : Fit Try.prog 12 22 ys) : ∃ l : List Item, ys = [.l (encL Item.v l)] ∧ l.length ≤ maxLen ∧ ∀ y ∈ l, y.ok := fitS22 (n := 9) h
theorem arg43 {ys : List V} (h : Fit Try.prog 12 43 ys) : ∃ l : List Entry, ys = [.l (encL Entry.v l)] ∧ l.length ≤ maxLen ∧ ∀ y ∈ l, y.ok := fitS43 (n := 7) h
theorem arg45 {ys : List V} (h : Fit Try.prog 12 45 ys) : ∃ x : Span, ys = x.cells ∧ x.ok := fitT45 (n := 10) h
theorem sound : SoundO Try.prog (O XM) := soundX mutOK
theorem pf5 (xs : List V) (h : FitAll Try.prog [22, 22] xs) : PF Try.prog 5 xs (.b true) := by
  obtain ⟨y1, r1, rfl, h1, y2, r2, rfl, h2, rfl⟩ := h
  obtain ⟨a, rfl, _⟩ := arg22 h1
  obtain ⟨b, rfl, _⟩ := arg22 h2
  rw [pack22, pack22]
  exact (sound.2 5 _ _ (o5 live a b)).2
theorem pf8 (xs : List V) (h : FitAll Try.prog [43, 45] xs) : PF Try.prog 8 xs (.b true) := by
  obtain ⟨y1, r1, rfl, h1, y2, r2, rfl, h2, rfl⟩ := h
  obtain ⟨j, rfl, _⟩ := arg43 h1
  obtain ⟨s, rfl, _⟩ := arg45 h2
  rw [pack43, pack45]
  exact (sound.2 8 _ _ (o8 live j s)).2
theorem own : ownKnob Try.prog.godebug = none := by kernel_rfl
theorem laidOut : laidOutB Try.prog = true := by kernel_rfl
set_option maxRecDepth 100000 in
theorem reconcileGaps_lifted (os : Os) (started : os.Started) (H : Type) (enc : TypeId × Value → H) :
    ReturnsInHanded {} Try.checked os 5 .any (Rows.reconcileGapsSpec.pre6 enc Try.prog Try.f5 Rows.reconcileGapsRow.domain false) (Rows.reconcileGapsSpec.post enc Try.prog Try.f5 false true false false) := by
  refine returnsInHanded_of_change (C := Try.checked) own started (by kernel_rfl) Try.func5
    (ChangeSpec.witness6 (enc := enc) (C := Try.checked) false ⟨#[], #[.slice none 0 0, .slice none 0 0], []⟩ 8 (by kernel_rfl) (by kernel_rfl) (by kernel_rfl) (by kernel_rfl)) ?_
  intro W base args ds gs before hval hW _ _
  refine calls_true (P := Try.prog) laidOut ?_ ?_ (tb := 4) rfl Try.underlying4 rfl ?_ ?_ hval hW (fun _ h => by cases h)
  · rw [Try.params5]; simp only [List.mem_cons, List.not_mem_nil, or_false, forall_eq_or_imp, forall_eq]
    exact ⟨⟨by kernel_rfl, by decide +kernel⟩, ⟨by kernel_rfl, by decide +kernel⟩⟩
  · rw [Try.params5]; simp only [List.mem_cons, List.not_mem_nil, or_false, forall_eq_or_imp, forall_eq]
    exact ⟨by kernel_rfl, by kernel_rfl⟩
  · rw [Try.params5]
    intro ds hd
    match ds, hd with
    | [d1, d2], _ => rfl
  · rw [Try.params5]; exact pf5
theorem reconcileGaps_holds : Rows.ReconcileGapsSaid :=
  OpenClaim.holds_of_wide 5 Try.f5 rfl rfl rfl rfl rfl rfl rfl ⟨rfl, rfl, rfl, rfl, rfl⟩ rfl rfl rfl rfl rfl (by kernel_rfl) Try.func5 (by kernel_rfl)
    (of_decide_eq_true (by kernel_rfl)) (by unfold Func.isWrapper; first | (rw [if_pos (by decide +kernel)]; kernel_rfl) | (rw [if_neg (by decide +kernel)]; exact ⟨rfl, rfl⟩))
    (fun os started H enc _ => reconcileGaps_lifted os started H enc)
#print axioms reconcileGaps_holds
set_option maxRecDepth 100000 in
theorem reconcileItems_lifted (os : Os) (started : os.Started) (H : Type) (enc : TypeId × Value → H) :
    ReturnsInHanded {} Try.checked os 8 .any (Rows.reconcileItemsSpec.pre6 enc Try.prog Try.f8 Rows.reconcileItemsRow.domain false) (Rows.reconcileItemsSpec.post enc Try.prog Try.f8 false true false false) := by
  refine returnsInHanded_of_change (C := Try.checked) own started (by kernel_rfl) Try.func8
    (ChangeSpec.witness6 (enc := enc) (C := Try.checked) false ⟨#[], #[.slice none 0 0, .agg #[.int .i64 0, .int .i64 0, .int .i64 0]], []⟩ 8 (by kernel_rfl) (by kernel_rfl) (by kernel_rfl) (by kernel_rfl)) ?_
  intro W base args ds gs before hval hW _ _
  refine calls_true (P := Try.prog) laidOut ?_ ?_ (tb := 4) rfl Try.underlying4 rfl ?_ ?_ hval hW (fun _ h => by cases h)
  · rw [Try.params8]; simp only [List.mem_cons, List.not_mem_nil, or_false, forall_eq_or_imp, forall_eq]
    exact ⟨⟨by kernel_rfl, by decide +kernel⟩, ⟨by kernel_rfl, by decide +kernel⟩⟩
  · rw [Try.params8]; simp only [List.mem_cons, List.not_mem_nil, or_false, forall_eq_or_imp, forall_eq]
    exact ⟨by kernel_rfl, by kernel_rfl⟩
  · rw [Try.params8]
    intro ds hd
    match ds, hd with
    | [d1, d2], _ => rfl
  · rw [Try.params8]; exact pf8
theorem reconcileItems_holds : Rows.ReconcileItemsSaid :=
  OpenClaim.holds_of_wide 8 Try.f8 rfl rfl rfl rfl rfl rfl rfl ⟨rfl, rfl, rfl, rfl, rfl⟩ rfl rfl rfl rfl rfl (by kernel_rfl) Try.func8 (by kernel_rfl)
    (of_decide_eq_true (by kernel_rfl)) (by unfold Func.isWrapper; first | (rw [if_pos (by decide +kernel)]; kernel_rfl) | (rw [if_neg (by decide +kernel)]; exact ⟨rfl, rfl⟩))
    (fun os started H enc _ => reconcileItems_lifted os started H enc)
#print axioms reconcileItems_holds
end Go.Proofs.Ytmhpmghhgppdnaa
