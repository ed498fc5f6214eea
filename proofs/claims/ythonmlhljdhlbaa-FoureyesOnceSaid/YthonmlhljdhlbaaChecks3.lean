/-
  FoureyesOnce answers true for every input, and its arguments read as they did.
-/
import Derived.Test.YthonmlhljdhlbaaChecks
import Derived.Test.YthonmlhljdhlbaaLaws4
namespace Go.Proofs.Ythonmlhljdhlbaa
open Go.ChangeShapes Go.WideShapes Go.ChangeAt Go.RowKit Go.VM
theorem pf8 (xs : List V) (h : FitAll Try.prog [22, 40, 42] xs) : PF Try.prog 8 xs (.b true) := by
  obtain ⟨y1, r1, rfl, h1, y2, r2, rfl, h2, y3, r3, rfl, h3, rfl⟩ := h
  obtain ⟨l, rfl, _⟩ := fitS22 h1
  obtain ⟨us, rfl, _⟩ := fitS40 h2
  obtain ⟨a, rfl, _⟩ := fitT42 h3
  rw [pack22, pack40, pack42]
  exact (sound 8 _ _ (e8 l us a.id a.name a.day)).2
set_option maxRecDepth 100000 in
theorem foureyesOnce_lifted (os : Os) (started : os.Started) (H : Type) (enc : TypeId × Value → H) :
    ReturnsInHanded {} Try.checked os 8 .any (Rows.foureyesOnceSpec.pre6 enc Try.prog Try.f8 Rows.foureyesOnceRow.domain false) (Rows.foureyesOnceSpec.post enc Try.prog Try.f8 false true false false) := by
  refine returnsInHanded_of_change (C := Try.checked) own started (by kernel_rfl) Try.func8
    (ChangeSpec.witness6 (enc := enc) (C := Try.checked) false ⟨#[], #[.slice none 0 0, .slice none 0 0, .agg #[.int .i64 0, .string ⟨#[]⟩, .int .i64 0]], []⟩ 8 (by kernel_rfl) (by kernel_rfl) (by kernel_rfl) (by kernel_rfl)) ?_
  intro W base args ds gs before hval hW _ _
  refine calls_true (P := Try.prog) laidOut ?_ ?_ (tb := 4) rfl Try.underlying4 rfl ?_ ?_ hval hW
  · rw [Try.params8]; simp only [List.mem_cons, List.not_mem_nil, or_false, forall_eq_or_imp, forall_eq]
    exact ⟨⟨by kernel_rfl, by decide +kernel⟩, ⟨by kernel_rfl, by decide +kernel⟩, ⟨by kernel_rfl, by decide +kernel⟩⟩
  · rw [Try.params8]; simp only [List.mem_cons, List.not_mem_nil, or_false, forall_eq_or_imp, forall_eq]
    exact ⟨by kernel_rfl, by kernel_rfl, by kernel_rfl⟩
  · rw [Try.params8]
    intro ds hd
    match ds, hd with
    | [d1, d2, d3], _ => rfl
  · rw [Try.params8]; exact pf8
theorem foureyesOnce_holds : Rows.FoureyesOnceSaid :=
  OpenClaim.holds_of_wide 8 Try.f8 rfl rfl rfl rfl rfl rfl rfl ⟨rfl, rfl, rfl, rfl, rfl⟩ rfl rfl rfl rfl rfl (by kernel_rfl) Try.func8 (by kernel_rfl)
    (of_decide_eq_true (by kernel_rfl)) (by unfold Func.isWrapper; first | (rw [if_pos (by decide +kernel)]; kernel_rfl) | (rw [if_neg (by decide +kernel)]; exact ⟨rfl, rfl⟩))
    (fun os started H enc _ => foureyesOnce_lifted os started H enc)
#print axioms foureyesOnce_holds
end Go.Proofs.Ythonmlhljdhlbaa
