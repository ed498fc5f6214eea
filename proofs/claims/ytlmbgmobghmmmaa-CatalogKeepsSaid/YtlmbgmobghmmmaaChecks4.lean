/-
  The law that an addition leaves everything else as it was answers true for every input, and its arguments read as they did.
-/
import Derived.Test.YtlmbgmobghmmmaaChecks
import Derived.Test.YtlmbgmobghmmmaaSpecF
namespace Go.Proofs.Ytlmbgmobghmmmaa
open Go.ChangeShapes Go.WideShapes Go.ChangeAt Go.RowKit Go.VM

theorem soundB : SoundO Try.prog OB := by
  refine den_sound (fun f fc h => ?_) (fun f xs y h => ?_) mutOK
  · unfold tabB at h
    split at h
    · rename_i he; subst he; cases h; exact ⟨_, Try.func8, comp8, okf8⟩
    · cases h
  · unfold extB at h
    split at h
    · rename_i he
      subst he
      simp only [Option.bind_eq_some_iff] at h
      obtain ⟨z, hz, hy⟩ := h
      have hs := sound.2 13 _ _ hz
      split at hy
      · cases hy; exact ⟨hs.1, frzT hs.2⟩
      · cases hy
    · exact sound.2 f xs y h
set_option maxRecDepth 100000 in
theorem arg33' {ys : List V} (h : Fit Try.prog 12 33 ys) : ∃ x : Product, ys = x.cells ∧ x.ok := fitT33 (n := 7) h
set_option maxRecDepth 100000 in
theorem arg46' {ys : List V} (h : Fit Try.prog 12 46 ys) : ∃ x : Span, ys = x.cells ∧ x.ok := fitT46 (n := 10) h
set_option maxRecDepth 100000 in
theorem pf8 (xs : List V) (h : FitAll Try.prog [22, 33, 46] xs) : PF Try.prog 8 xs (.b true) := by
  obtain ⟨y1, r1, rfl, h1, y2, r2, rfl, h2, y3, r3, rfl, h3, rfl⟩ := h
  obtain ⟨l, rfl, hl, _⟩ := arg22 h1
  obtain ⟨p, rfl, _⟩ := arg33' h2
  obtain ⟨s, rfl, _⟩ := arg46' h3
  rw [pack22, pack33, pack46]
  exact (soundB.2 8 _ _ (e8 l hl p s)).2
set_option maxRecDepth 100000 in
theorem catalogKeeps_lifted (os : Os) (started : os.Started) (H : Type) (enc : TypeId × Value → H) :
    ReturnsInHanded {} Try.checked os 8 .any (Rows.catalogKeepsSpec.pre6 enc Try.prog Try.f8 Rows.catalogKeepsRow.domain false) (Rows.catalogKeepsSpec.post enc Try.prog Try.f8 false true false false) := by
  refine returnsInHanded_of_change (C := Try.checked) own started (by kernel_rfl) Try.func8
    (ChangeSpec.witness6 (enc := enc) (C := Try.checked) false ⟨#[], #[.slice none 0 0, .agg #[.string ⟨#[]⟩, .string ⟨#[]⟩, .string ⟨#[]⟩, .int .i64 0, .int .i64 0, .int .i64 0, .int .i64 0, .slice none 0 0, .bool false, .int .i64 0, .int .i64 0, .bool false, .slice none 0 0, .bool false, .int .i64 0, .int .i64 0, .bool false, .slice none 0 0, .slice none 0 0], .agg #[.int .i64 0, .int .i64 0]], []⟩ 8 (by kernel_rfl) (by kernel_rfl) (by kernel_rfl) (by kernel_rfl)) ?_
  intro W base args ds gs before hval hW _ _
  refine calls_trueR (P := Try.prog) laidOut ?_ ?_ (tb := 4) rfl Try.underlying4 rfl ?_ ?_ hval hW (fun _ h => by cases h)
  · rw [Try.params8]; simp only [List.mem_cons, List.not_mem_nil, or_false, forall_eq_or_imp, forall_eq]
    exact ⟨⟨by kernel_rfl, by decide +kernel⟩, ⟨by kernel_rfl, by decide +kernel⟩, ⟨by kernel_rfl, by decide +kernel⟩⟩
  · rw [Try.params8]; simp only [List.mem_cons, List.not_mem_nil, or_false, forall_eq_or_imp, forall_eq]
    exact ⟨by kernel_rfl, by kernel_rfl, by kernel_rfl⟩
  · rw [Try.params8]
    intro ds hd
    match ds, hd with
    | [d1, d2, d3], _ => rfl
  · rw [Try.params8]; exact pf8
theorem catalogKeeps_holds : Rows.CatalogKeepsSaid :=
  OpenClaim.holds_of_wide 8 Try.f8 rfl rfl rfl rfl rfl rfl rfl ⟨rfl, rfl, rfl, rfl, rfl⟩ rfl rfl rfl rfl rfl (by kernel_rfl) Try.func8 (by kernel_rfl)
    (of_decide_eq_true (by kernel_rfl)) (by unfold Func.isWrapper; first | (rw [if_pos (by decide +kernel)]; kernel_rfl) | (rw [if_neg (by decide +kernel)]; exact ⟨rfl, rfl⟩))
    (fun os started H enc _ => catalogKeeps_lifted os started H enc)
#print axioms catalogKeeps_holds
end Go.Proofs.Ytlmbgmobghmmmaa
