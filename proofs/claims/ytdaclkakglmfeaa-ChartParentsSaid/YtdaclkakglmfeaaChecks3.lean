/-
  The law that each account stands behind the one above it answers true for every input, and its arguments read as they did.
-/
import Derived.Test.YtdaclkakglmfeaaChecks
import Derived.Test.YtdaclkakglmfeaaLaws4
namespace Go.Proofs.Ytdaclkakglmfeaa
open Go.ChangeShapes Go.WideShapes Go.ChangeAt Go.RowKit Go.VM

theorem pf8 (xs : List V) (h : FitAll Try.prog [22, 24] xs) : PF Try.prog 8 xs (.b true) := by
  obtain ⟨y1, r1, rfl, h1, y2, r2, rfl, h2, rfl⟩ := h
  obtain ⟨l, rfl, hl, hk⟩ := arg22 h1
  obtain ⟨p, rfl, _⟩ := arg24 h2
  rw [pack22, pack24]
  exact (sound8.2 8 _ _ (e8 l p (gl_names hk) hl)).2
set_option maxRecDepth 100000 in
theorem chartParents_lifted (os : Os) (started : os.Started) (H : Type) (enc : TypeId × Value → H) :
    ReturnsInHanded {} Try.checked os 8 .any (Rows.chartParentsSpec.pre6 enc Try.prog Try.f8 Rows.chartParentsRow.domain false) (Rows.chartParentsSpec.post enc Try.prog Try.f8 false true false false) := by
  refine returnsInHanded_of_change (C := Try.checked) own started (by kernel_rfl) Try.func8
    (ChangeSpec.witness6 (enc := enc) (C := Try.checked) false ⟨#[], #[.slice none 0 0, .agg #[.int .i64 0, .int .i64 0, .int .i64 0, .int .i64 0, .int .i64 0, .int .i64 0, .int .i64 0, .int .i64 0, .int .i64 0, .int .i64 0, .int .i64 0, .int .i64 0, .int .i64 0, .int .i64 0]], []⟩ 8 (by kernel_rfl) (by kernel_rfl) (by kernel_rfl) (by kernel_rfl)) ?_
  intro W base args ds gs before hval hW _ _
  refine calls_true (P := Try.prog) laidOut ?_ ?_ (tb := 4) rfl Try.underlying4 rfl ?_ ?_ hval hW (fun _ h => by cases h)
  · rw [Try.params8]; simp only [List.mem_cons, List.not_mem_nil, or_false, forall_eq_or_imp, forall_eq]
    exact ⟨⟨by kernel_rfl, by decide +kernel⟩, ⟨by kernel_rfl, by decide +kernel⟩⟩
  · rw [Try.params8]; simp only [List.mem_cons, List.not_mem_nil, or_false, forall_eq_or_imp, forall_eq]
    exact ⟨by kernel_rfl, by kernel_rfl⟩
  · rw [Try.params8]
    intro ds hd
    match ds, hd with
    | [d1, d2], _ => rfl
  · rw [Try.params8]; exact pf8
theorem chartParents_holds : Rows.ChartParentsSaid :=
  OpenClaim.holds_of_wide 8 Try.f8 rfl rfl rfl rfl rfl rfl rfl ⟨rfl, rfl, rfl, rfl, rfl⟩ rfl rfl rfl rfl rfl (by kernel_rfl) Try.func8 (by kernel_rfl)
    (of_decide_eq_true (by kernel_rfl)) (by unfold Func.isWrapper; first | (rw [if_pos (by decide +kernel)]; kernel_rfl) | (rw [if_neg (by decide +kernel)]; exact ⟨rfl, rfl⟩))
    (fun os started H enc _ => chartParents_lifted os started H enc)
#print axioms chartParents_holds
end Go.Proofs.Ytdaclkakglmfeaa
