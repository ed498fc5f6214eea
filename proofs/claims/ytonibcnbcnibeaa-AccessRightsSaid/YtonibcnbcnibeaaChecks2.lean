/-
  AccessDecides, AccessChanges and AccessRights answer true for every input, and their arguments read as they did.
-/
import Derived.Test.YtonibcnbcnibeaaRows
import Derived.Test.YtonibcnbcnibeaaLaw4
import Derived.Test.YtonibcnbcnibeaaVm13
import Derived.ProofKit
namespace Go.Proofs.Ytonibcnbcnibeaa
open Go.ChangeShapes Go.WideShapes Go.ChangeAt Go.RowKit Go.VM

theorem pack22 (x : V) : packT Try.prog 22 [x] = x := pack_one (by kernel_rfl) x
theorem pack9 (x : V) : packT Try.prog 9 [x] = x := pack_one (by kernel_rfl) x
theorem pack3 (x : V) : packT Try.prog 3 [x] = x := pack_one (by kernel_rfl) x
theorem pf4 (xs : List V) (h : FitAll Try.prog [22, 3, 3] xs) : PF Try.prog 4 xs (.b true) := by
  obtain ⟨y1, r1, rfl, h1, y2, r2, rfl, h2, y3, r3, rfl, h3, rfl⟩ := h
  obtain ⟨us, rfl, hl⟩ := fit_users h1
  obtain ⟨r, rfl, _⟩ := fit_i64 Try.underlying3 h2
  obtain ⟨a, rfl, ha⟩ := fit_i64 Try.underlying3 h3
  rw [pack22, pack3, pack3]
  exact (sound 4 _ _ (e4 us r a (by simpa [maxLen] using hl) ha.2)).2
theorem pf5 (xs : List V) (h : FitAll Try.prog [22, 9, 3] xs) : PF Try.prog 5 xs (.b true) := by
  obtain ⟨y1, r1, rfl, h1, y2, r2, rfl, h2, y3, r3, rfl, h3, rfl⟩ := h
  obtain ⟨us, rfl, hl⟩ := fit_users h1
  obtain ⟨s, rfl, _⟩ := VM.fit_string Try.underlying9 h2
  obtain ⟨r, rfl, _⟩ := fit_i64 Try.underlying3 h3
  rw [pack22, pack9, pack3]
  exact (sound 5 _ _ (e5 us s r (by simpa [maxLen] using hl))).2
theorem pf6 (xs : List V) (h : FitAll Try.prog [22, 9, 3] xs) : PF Try.prog 6 xs (.b true) := by
  obtain ⟨y1, r1, rfl, h1, y2, r2, rfl, h2, y3, r3, rfl, h3, rfl⟩ := h
  obtain ⟨us, rfl, hl⟩ := fit_users h1
  obtain ⟨s, rfl, _⟩ := VM.fit_string Try.underlying9 h2
  obtain ⟨r, rfl, _⟩ := fit_i64 Try.underlying3 h3
  rw [pack22, pack9, pack3]
  exact (sound 6 _ _ (e6 us s r (by simpa [maxLen] using hl))).2
theorem own : ownKnob Try.prog.godebug = none := by kernel_rfl
theorem laidOut : laidOutB Try.prog = true := by kernel_rfl
set_option maxRecDepth 100000 in
theorem accessDecides_lifted (os : Os) (started : os.Started) (H : Type) (enc : TypeId × Value → H) :
    ReturnsInHanded {} Try.checked os 4 .any (Rows.accessDecidesSpec.pre6 enc Try.prog Try.f4 Rows.accessDecidesRow.domain false) (Rows.accessDecidesSpec.post enc Try.prog Try.f4 false true false false) := by
  refine returnsInHanded_of_change (C := Try.checked) own started (by kernel_rfl) Try.func4
    (ChangeSpec.witness6 (enc := enc) (C := Try.checked) false ⟨#[], #[.slice none 0 0, .int .i64 0, .int .i64 0], []⟩ 8 (by kernel_rfl) (by kernel_rfl) (by kernel_rfl) (by kernel_rfl)) ?_
  intro W base args ds gs before hval hW _ _
  refine calls_true (P := Try.prog) laidOut ?_ ?_ (tb := 4) rfl Try.underlying4 rfl ?_ ?_ hval hW
  · rw [Try.params4]; simp only [List.mem_cons, List.not_mem_nil, or_false, forall_eq_or_imp, forall_eq]
    exact ⟨⟨by kernel_rfl, by decide +kernel⟩, ⟨by kernel_rfl, by decide +kernel⟩, ⟨by kernel_rfl, by decide +kernel⟩⟩
  · rw [Try.params4]; simp only [List.mem_cons, List.not_mem_nil, or_false, forall_eq_or_imp, forall_eq]
    exact ⟨by kernel_rfl, by kernel_rfl, by kernel_rfl⟩
  · rw [Try.params4]
    intro ds hd
    match ds, hd with
    | [d1, d2, d3], _ => rfl
  · rw [Try.params4]; exact pf4
theorem accessDecides_holds : Rows.AccessDecidesSaid :=
  OpenClaim.holds_of_wide 4 Try.f4 rfl rfl rfl rfl rfl rfl rfl ⟨rfl, rfl, rfl, rfl, rfl⟩ rfl rfl rfl rfl rfl (by kernel_rfl) Try.func4 (by kernel_rfl)
    (of_decide_eq_true (by kernel_rfl)) (by unfold Func.isWrapper; first | (rw [if_pos (by decide +kernel)]; kernel_rfl) | (rw [if_neg (by decide +kernel)]; exact ⟨rfl, rfl⟩))
    (fun os started H enc _ => accessDecides_lifted os started H enc)
#print axioms accessDecides_holds
set_option maxRecDepth 100000 in
theorem accessChanges_lifted (os : Os) (started : os.Started) (H : Type) (enc : TypeId × Value → H) :
    ReturnsInHanded {} Try.checked os 5 .any (Rows.accessChangesSpec.pre6 enc Try.prog Try.f5 Rows.accessChangesRow.domain false) (Rows.accessChangesSpec.post enc Try.prog Try.f5 false true false false) := by
  refine returnsInHanded_of_change (C := Try.checked) own started (by kernel_rfl) Try.func5
    (ChangeSpec.witness6 (enc := enc) (C := Try.checked) false ⟨#[], #[.slice none 0 0, .string ⟨#[]⟩, .int .i64 0], []⟩ 8 (by kernel_rfl) (by kernel_rfl) (by kernel_rfl) (by kernel_rfl)) ?_
  intro W base args ds gs before hval hW _ _
  refine calls_true (P := Try.prog) laidOut ?_ ?_ (tb := 4) rfl Try.underlying4 rfl ?_ ?_ hval hW
  · rw [Try.params5]; simp only [List.mem_cons, List.not_mem_nil, or_false, forall_eq_or_imp, forall_eq]
    exact ⟨⟨by kernel_rfl, by decide +kernel⟩, ⟨by kernel_rfl, by decide +kernel⟩, ⟨by kernel_rfl, by decide +kernel⟩⟩
  · rw [Try.params5]; simp only [List.mem_cons, List.not_mem_nil, or_false, forall_eq_or_imp, forall_eq]
    exact ⟨by kernel_rfl, by kernel_rfl, by kernel_rfl⟩
  · rw [Try.params5]
    intro ds hd
    match ds, hd with
    | [d1, d2, d3], _ => rfl
  · rw [Try.params5]; exact pf5
theorem accessChanges_holds : Rows.AccessChangesSaid :=
  OpenClaim.holds_of_wide 5 Try.f5 rfl rfl rfl rfl rfl rfl rfl ⟨rfl, rfl, rfl, rfl, rfl⟩ rfl rfl rfl rfl rfl (by kernel_rfl) Try.func5 (by kernel_rfl)
    (of_decide_eq_true (by kernel_rfl)) (by unfold Func.isWrapper; first | (rw [if_pos (by decide +kernel)]; kernel_rfl) | (rw [if_neg (by decide +kernel)]; exact ⟨rfl, rfl⟩))
    (fun os started H enc _ => accessChanges_lifted os started H enc)
#print axioms accessChanges_holds
set_option maxRecDepth 100000 in
theorem accessRights_lifted (os : Os) (started : os.Started) (H : Type) (enc : TypeId × Value → H) :
    ReturnsInHanded {} Try.checked os 6 .any (Rows.accessRightsSpec.pre6 enc Try.prog Try.f6 Rows.accessRightsRow.domain false) (Rows.accessRightsSpec.post enc Try.prog Try.f6 false true false false) := by
  refine returnsInHanded_of_change (C := Try.checked) own started (by kernel_rfl) Try.func6
    (ChangeSpec.witness6 (enc := enc) (C := Try.checked) false ⟨#[], #[.slice none 0 0, .string ⟨#[]⟩, .int .i64 0], []⟩ 8 (by kernel_rfl) (by kernel_rfl) (by kernel_rfl) (by kernel_rfl)) ?_
  intro W base args ds gs before hval hW _ _
  refine calls_true (P := Try.prog) laidOut ?_ ?_ (tb := 4) rfl Try.underlying4 rfl ?_ ?_ hval hW
  · rw [Try.params6]; simp only [List.mem_cons, List.not_mem_nil, or_false, forall_eq_or_imp, forall_eq]
    exact ⟨⟨by kernel_rfl, by decide +kernel⟩, ⟨by kernel_rfl, by decide +kernel⟩, ⟨by kernel_rfl, by decide +kernel⟩⟩
  · rw [Try.params6]; simp only [List.mem_cons, List.not_mem_nil, or_false, forall_eq_or_imp, forall_eq]
    exact ⟨by kernel_rfl, by kernel_rfl, by kernel_rfl⟩
  · rw [Try.params6]
    intro ds hd
    match ds, hd with
    | [d1, d2, d3], _ => rfl
  · rw [Try.params6]; exact pf6
theorem accessRights_holds : Rows.AccessRightsSaid :=
  OpenClaim.holds_of_wide 6 Try.f6 rfl rfl rfl rfl rfl rfl rfl ⟨rfl, rfl, rfl, rfl, rfl⟩ rfl rfl rfl rfl rfl (by kernel_rfl) Try.func6 (by kernel_rfl)
    (of_decide_eq_true (by kernel_rfl)) (by unfold Func.isWrapper; first | (rw [if_pos (by decide +kernel)]; kernel_rfl) | (rw [if_neg (by decide +kernel)]; exact ⟨rfl, rfl⟩))
    (fun os started H enc _ => accessRights_lifted os started H enc)
#print axioms accessRights_holds
end Go.Proofs.Ytonibcnbcnibeaa
