/-
  More laws on catalogs answer true for every input, and their arguments read as they did.
-/
import Derived.Test.YtlmbgmobghmmmaaChecks
import Derived.Test.YtlmbgmobghmmmaaSpecD
namespace Go.Proofs.Ytlmbgmobghmmmaa
open Go.ChangeShapes Go.WideShapes Go.ChangeAt Go.RowKit Go.VM

set_option maxRecDepth 100000 in
theorem arg33 {ys : List V} (h : Fit Try.prog 12 33 ys) : ∃ x : Product, ys = x.cells ∧ x.ok := fitT33 (n := 7) h
set_option maxRecDepth 100000 in
theorem arg46 {ys : List V} (h : Fit Try.prog 12 46 ys) : ∃ x : Span, ys = x.cells ∧ x.ok := fitT46 (n := 10) h
set_option maxRecDepth 100000 in
theorem pf4 (xs : List V) (h : FitAll Try.prog [22, 33] xs) : PF Try.prog 4 xs (.b true) := by
  obtain ⟨y1, r1, rfl, h1, y2, r2, rfl, h2, rfl⟩ := h
  obtain ⟨l, rfl, hl, _⟩ := arg22 h1
  obtain ⟨p, rfl, _⟩ := arg33 h2
  rw [pack22, pack33]
  exact (sound.2 4 _ _ (e4 l hl p)).2
set_option maxRecDepth 100000 in
theorem pf5 (xs : List V) (h : FitAll Try.prog [22, 9, 3] xs) : PF Try.prog 5 xs (.b true) := by
  obtain ⟨y1, r1, rfl, h1, y2, r2, rfl, h2, y3, r3, rfl, h3, rfl⟩ := h
  obtain ⟨l, rfl, hl, _⟩ := arg22 h1
  obtain ⟨n, rfl, _⟩ := VM.fit_string Try.underlying9 h2
  obtain ⟨d, rfl, _⟩ := fit_i64 Try.underlying3 h3
  rw [pack22, pack9, pack3]
  exact (sound.2 5 _ _ (e5 l hl n d)).2
set_option maxRecDepth 100000 in
theorem pf6 (xs : List V) (h : FitAll Try.prog [22, 9, 46] xs) : PF Try.prog 6 xs (.b true) := by
  obtain ⟨y1, r1, rfl, h1, y2, r2, rfl, h2, y3, r3, rfl, h3, rfl⟩ := h
  obtain ⟨l, rfl, hl, _⟩ := arg22 h1
  obtain ⟨n, rfl, _⟩ := VM.fit_string Try.underlying9 h2
  obtain ⟨s, rfl, _⟩ := arg46 h3
  rw [pack22, pack9, pack46]
  exact (sound.2 6 _ _ (e6 l hl n s)).2
set_option maxRecDepth 100000 in
theorem catalogAdds_lifted (os : Os) (started : os.Started) (H : Type) (enc : TypeId × Value → H) :
    ReturnsInHanded {} Try.checked os 4 .any (Rows.catalogAddsSpec.pre6 enc Try.prog Try.f4 Rows.catalogAddsRow.domain false) (Rows.catalogAddsSpec.post enc Try.prog Try.f4 false true false false) := by
  refine returnsInHanded_of_change (C := Try.checked) own started (by kernel_rfl) Try.func4
    (ChangeSpec.witness6 (enc := enc) (C := Try.checked) false ⟨#[], #[.slice none 0 0, .agg #[.string ⟨#[]⟩, .string ⟨#[]⟩, .string ⟨#[]⟩, .int .i64 0, .int .i64 0, .int .i64 0, .int .i64 0, .slice none 0 0, .bool false, .int .i64 0, .int .i64 0, .bool false, .slice none 0 0, .bool false, .int .i64 0, .int .i64 0, .bool false, .slice none 0 0, .slice none 0 0]], []⟩ 8 (by kernel_rfl) (by kernel_rfl) (by kernel_rfl) (by kernel_rfl)) ?_
  intro W base args ds gs before hval hW _ _
  refine calls_trueR (P := Try.prog) laidOut ?_ ?_ (tb := 4) rfl Try.underlying4 rfl ?_ ?_ hval hW (fun _ h => by cases h)
  · rw [Try.params4]; simp only [List.mem_cons, List.not_mem_nil, or_false, forall_eq_or_imp, forall_eq]
    exact ⟨⟨by kernel_rfl, by decide +kernel⟩, ⟨by kernel_rfl, by decide +kernel⟩⟩
  · rw [Try.params4]; simp only [List.mem_cons, List.not_mem_nil, or_false, forall_eq_or_imp, forall_eq]
    exact ⟨by kernel_rfl, by kernel_rfl⟩
  · rw [Try.params4]
    intro ds hd
    match ds, hd with
    | [d1, d2], _ => rfl
  · rw [Try.params4]; exact pf4
theorem catalogAdds_holds : Rows.CatalogAddsSaid :=
  OpenClaim.holds_of_wide 4 Try.f4 rfl rfl rfl rfl rfl rfl rfl ⟨rfl, rfl, rfl, rfl, rfl⟩ rfl rfl rfl rfl rfl (by kernel_rfl) Try.func4 (by kernel_rfl)
    (of_decide_eq_true (by kernel_rfl)) (by unfold Func.isWrapper; first | (rw [if_pos (by decide +kernel)]; kernel_rfl) | (rw [if_neg (by decide +kernel)]; exact ⟨rfl, rfl⟩))
    (fun os started H enc _ => catalogAdds_lifted os started H enc)
#print axioms catalogAdds_holds
set_option maxRecDepth 100000 in
theorem catalogFinds_lifted (os : Os) (started : os.Started) (H : Type) (enc : TypeId × Value → H) :
    ReturnsInHanded {} Try.checked os 5 .any (Rows.catalogFindsSpec.pre6 enc Try.prog Try.f5 Rows.catalogFindsRow.domain false) (Rows.catalogFindsSpec.post enc Try.prog Try.f5 false true false false) := by
  refine returnsInHanded_of_change (C := Try.checked) own started (by kernel_rfl) Try.func5
    (ChangeSpec.witness6 (enc := enc) (C := Try.checked) false ⟨#[], #[.slice none 0 0, .string ⟨#[]⟩, .int .i64 0], []⟩ 8 (by kernel_rfl) (by kernel_rfl) (by kernel_rfl) (by kernel_rfl)) ?_
  intro W base args ds gs before hval hW _ _
  refine calls_trueR (P := Try.prog) laidOut ?_ ?_ (tb := 4) rfl Try.underlying4 rfl ?_ ?_ hval hW (fun _ h => by cases h)
  · rw [Try.params5]; simp only [List.mem_cons, List.not_mem_nil, or_false, forall_eq_or_imp, forall_eq]
    exact ⟨⟨by kernel_rfl, by decide +kernel⟩, ⟨by kernel_rfl, by decide +kernel⟩, ⟨by kernel_rfl, by decide +kernel⟩⟩
  · rw [Try.params5]; simp only [List.mem_cons, List.not_mem_nil, or_false, forall_eq_or_imp, forall_eq]
    exact ⟨by kernel_rfl, by kernel_rfl, by kernel_rfl⟩
  · rw [Try.params5]
    intro ds hd
    match ds, hd with
    | [d1, d2, d3], _ => rfl
  · rw [Try.params5]; exact pf5
theorem catalogFinds_holds : Rows.CatalogFindsSaid :=
  OpenClaim.holds_of_wide 5 Try.f5 rfl rfl rfl rfl rfl rfl rfl ⟨rfl, rfl, rfl, rfl, rfl⟩ rfl rfl rfl rfl rfl (by kernel_rfl) Try.func5 (by kernel_rfl)
    (of_decide_eq_true (by kernel_rfl)) (by unfold Func.isWrapper; first | (rw [if_pos (by decide +kernel)]; kernel_rfl) | (rw [if_neg (by decide +kernel)]; exact ⟨rfl, rfl⟩))
    (fun os started H enc _ => catalogFinds_lifted os started H enc)
#print axioms catalogFinds_holds
set_option maxRecDepth 100000 in
theorem catalogChanges_lifted (os : Os) (started : os.Started) (H : Type) (enc : TypeId × Value → H) :
    ReturnsInHanded {} Try.checked os 6 .any (Rows.catalogChangesSpec.pre6 enc Try.prog Try.f6 Rows.catalogChangesRow.domain false) (Rows.catalogChangesSpec.post enc Try.prog Try.f6 false true false false) := by
  refine returnsInHanded_of_change (C := Try.checked) own started (by kernel_rfl) Try.func6
    (ChangeSpec.witness6 (enc := enc) (C := Try.checked) false ⟨#[], #[.slice none 0 0, .string ⟨#[]⟩, .agg #[.int .i64 0, .int .i64 0]], []⟩ 8 (by kernel_rfl) (by kernel_rfl) (by kernel_rfl) (by kernel_rfl)) ?_
  intro W base args ds gs before hval hW _ _
  refine calls_trueR (P := Try.prog) laidOut ?_ ?_ (tb := 4) rfl Try.underlying4 rfl ?_ ?_ hval hW (fun _ h => by cases h)
  · rw [Try.params6]; simp only [List.mem_cons, List.not_mem_nil, or_false, forall_eq_or_imp, forall_eq]
    exact ⟨⟨by kernel_rfl, by decide +kernel⟩, ⟨by kernel_rfl, by decide +kernel⟩, ⟨by kernel_rfl, by decide +kernel⟩⟩
  · rw [Try.params6]; simp only [List.mem_cons, List.not_mem_nil, or_false, forall_eq_or_imp, forall_eq]
    exact ⟨by kernel_rfl, by kernel_rfl, by kernel_rfl⟩
  · rw [Try.params6]
    intro ds hd
    match ds, hd with
    | [d1, d2, d3], _ => rfl
  · rw [Try.params6]; exact pf6
theorem catalogChanges_holds : Rows.CatalogChangesSaid :=
  OpenClaim.holds_of_wide 6 Try.f6 rfl rfl rfl rfl rfl rfl rfl ⟨rfl, rfl, rfl, rfl, rfl⟩ rfl rfl rfl rfl rfl (by kernel_rfl) Try.func6 (by kernel_rfl)
    (of_decide_eq_true (by kernel_rfl)) (by unfold Func.isWrapper; first | (rw [if_pos (by decide +kernel)]; kernel_rfl) | (rw [if_neg (by decide +kernel)]; exact ⟨rfl, rfl⟩))
    (fun os started H enc _ => catalogChanges_lifted os started H enc)
#print axioms catalogChanges_holds
end Go.Proofs.Ytlmbgmobghmmmaa
