/-
  MandateChecks, MandateSigns, MandateRevokes, MandateAllows, MandateGuards and MandateEnds answer true for every input, and their arguments read as they did.
-/
import Derived.Test.YtflcddjpnbefhaaRows
import Derived.Test.YtflcddjpnbefhaaLaws2
import Derived.ProofKit
namespace Go.Proofs.Ytflcddjpnbefhaa
open Go.ChangeShapes Go.WideShapes Go.ChangeAt Go.RowKit Go.VM

theorem sound : SoundO Try.prog O := by
  refine den_sound (fun f fc h => codes_ok _ (tabOf_mem h)) (fun f xs y h => ?_)
  unfold ext at h
  split at h
  · exact cloneF_PF (t := 22) (tb := 4) (p1 := cp1) (p2 := #[]) (p3 := #[]) (p4 := cp4) (p5 := cp5) (zc := [.i .i64 0, .i .i64 0, .i .i64 0, .i .i64 0, .i .i64 0, .i .i64 0, .s []]) Try.func28 (by kernel_rfl) (by kernel_rfl) (by kernel_rfl) (by kernel_rfl) (by kernel_rfl) (by kernel_rfl) (by kernel_rfl) (by kernel_rfl) (by decide) xs y h
  · cases h
theorem pf3 (xs : List V) (h : FitAll Try.prog [22] xs) : PF Try.prog 3 xs (.b true) := by
  obtain ⟨y1, r1, rfl, h1, rfl⟩ := h
  obtain ⟨l, rfl, _⟩ := fitS22 h1
  rw [pack22]
  exact (sound 3 _ _ (e3 l)).2
theorem pf4 (xs : List V) (h : FitAll Try.prog [22, 28] xs) : PF Try.prog 4 xs (.b true) := by
  obtain ⟨y1, r1, rfl, h1, y2, r2, rfl, h2, rfl⟩ := h
  obtain ⟨l, rfl, _⟩ := fitS22 h1
  obtain ⟨m, rfl, _⟩ := fitT28 h2
  rw [pack22, pack28]
  exact (sound 4 _ _ (e4 l m)).2
theorem pf5 (xs : List V) (h : FitAll Try.prog [22, 3, 3] xs) : PF Try.prog 5 xs (.b true) := by
  obtain ⟨y1, r1, rfl, h1, y2, r2, rfl, h2, y3, r3, rfl, h3, rfl⟩ := h
  obtain ⟨l, rfl, _⟩ := fitS22 h1
  obtain ⟨a, rfl, _⟩ := fit_i64 Try.underlying3 h2
  obtain ⟨b, rfl, _⟩ := fit_i64 Try.underlying3 h3
  rw [pack22, pack3, pack3]
  exact (sound 5 _ _ (e5 l a b)).2
theorem pf6 (xs : List V) (h : FitAll Try.prog [22, 36] xs) : PF Try.prog 6 xs (.b true) := by
  obtain ⟨y1, r1, rfl, h1, y2, r2, rfl, h2, rfl⟩ := h
  obtain ⟨l, rfl, _⟩ := fitS22 h1
  obtain ⟨a, rfl, _⟩ := fitT36 h2
  rw [pack22, pack36]
  exact (sound 6 _ _ (e6 l a.id a.amount a.day)).2
theorem pf7 (xs : List V) (h : FitAll Try.prog [22, 36] xs) : PF Try.prog 7 xs (.b true) := by
  obtain ⟨y1, r1, rfl, h1, y2, r2, rfl, h2, rfl⟩ := h
  obtain ⟨l, rfl, _⟩ := fitS22 h1
  obtain ⟨a, rfl, _⟩ := fitT36 h2
  rw [pack22, pack36]
  exact (sound 7 _ _ (e7 l a.id a.amount a.day)).2
theorem pf8 (xs : List V) (h : FitAll Try.prog [22, 36, 3] xs) : PF Try.prog 8 xs (.b true) := by
  obtain ⟨y1, r1, rfl, h1, y2, r2, rfl, h2, y3, r3, rfl, h3, rfl⟩ := h
  obtain ⟨l, rfl, _⟩ := fitS22 h1
  obtain ⟨a, rfl, _⟩ := fitT36 h2
  obtain ⟨d, rfl, _⟩ := fit_i64 Try.underlying3 h3
  rw [pack22, pack36, pack3]
  exact (sound 8 _ _ (e8 l a.id a.amount a.day d)).2
theorem own : ownKnob Try.prog.godebug = none := by kernel_rfl
theorem laidOut : laidOutB Try.prog = true := by kernel_rfl
set_option maxRecDepth 100000 in
theorem mandateChecks_lifted (os : Os) (started : os.Started) (H : Type) (enc : TypeId × Value → H) :
    ReturnsInHanded {} Try.checked os 3 .any (Rows.mandateChecksSpec.pre6 enc Try.prog Try.f3 Rows.mandateChecksRow.domain false) (Rows.mandateChecksSpec.post enc Try.prog Try.f3 false true false false) := by
  refine returnsInHanded_of_change (C := Try.checked) own started (by kernel_rfl) Try.func3
    (ChangeSpec.witness6 (enc := enc) (C := Try.checked) false ⟨#[], #[.slice none 0 0], []⟩ 8 (by kernel_rfl) (by kernel_rfl) (by kernel_rfl) (by kernel_rfl)) ?_
  intro W base args ds gs before hval hW _ _
  refine calls_true (P := Try.prog) laidOut ?_ ?_ (tb := 4) rfl Try.underlying4 rfl ?_ ?_ hval hW
  · rw [Try.params3]; simp only [List.mem_cons, List.not_mem_nil, or_false, forall_eq]
    exact ⟨by kernel_rfl, by decide +kernel⟩
  · rw [Try.params3]; simp only [List.mem_cons, List.not_mem_nil, or_false, forall_eq]
    kernel_rfl
  · rw [Try.params3]
    intro ds hd
    match ds, hd with
    | [d1], _ => rfl
  · rw [Try.params3]; exact pf3
theorem mandateChecks_holds : Rows.MandateChecksSaid :=
  OpenClaim.holds_of_wide 3 Try.f3 rfl rfl rfl rfl rfl rfl rfl ⟨rfl, rfl, rfl, rfl, rfl⟩ rfl rfl rfl rfl rfl (by kernel_rfl) Try.func3 (by kernel_rfl)
    (of_decide_eq_true (by kernel_rfl)) (by unfold Func.isWrapper; first | (rw [if_pos (by decide +kernel)]; kernel_rfl) | (rw [if_neg (by decide +kernel)]; exact ⟨rfl, rfl⟩))
    (fun os started H enc _ => mandateChecks_lifted os started H enc)
#print axioms mandateChecks_holds
set_option maxRecDepth 100000 in
theorem mandateSigns_lifted (os : Os) (started : os.Started) (H : Type) (enc : TypeId × Value → H) :
    ReturnsInHanded {} Try.checked os 4 .any (Rows.mandateSignsSpec.pre6 enc Try.prog Try.f4 Rows.mandateSignsRow.domain false) (Rows.mandateSignsSpec.post enc Try.prog Try.f4 false true false false) := by
  refine returnsInHanded_of_change (C := Try.checked) own started (by kernel_rfl) Try.func4
    (ChangeSpec.witness6 (enc := enc) (C := Try.checked) false ⟨#[], #[.slice none 0 0, .agg #[.int .i64 0, .int .i64 0, .int .i64 0, .int .i64 0, .int .i64 0, .int .i64 0, .string ⟨#[]⟩]], []⟩ 8 (by kernel_rfl) (by kernel_rfl) (by kernel_rfl) (by kernel_rfl)) ?_
  intro W base args ds gs before hval hW _ _
  refine calls_true (P := Try.prog) laidOut ?_ ?_ (tb := 4) rfl Try.underlying4 rfl ?_ ?_ hval hW
  · rw [Try.params4]; simp only [List.mem_cons, List.not_mem_nil, or_false, forall_eq_or_imp, forall_eq]
    exact ⟨⟨by kernel_rfl, by decide +kernel⟩, ⟨by kernel_rfl, by decide +kernel⟩⟩
  · rw [Try.params4]; simp only [List.mem_cons, List.not_mem_nil, or_false, forall_eq_or_imp, forall_eq]
    exact ⟨by kernel_rfl, by kernel_rfl⟩
  · rw [Try.params4]
    intro ds hd
    match ds, hd with
    | [d1, d2], _ => rfl
  · rw [Try.params4]; exact pf4
theorem mandateSigns_holds : Rows.MandateSignsSaid :=
  OpenClaim.holds_of_wide 4 Try.f4 rfl rfl rfl rfl rfl rfl rfl ⟨rfl, rfl, rfl, rfl, rfl⟩ rfl rfl rfl rfl rfl (by kernel_rfl) Try.func4 (by kernel_rfl)
    (of_decide_eq_true (by kernel_rfl)) (by unfold Func.isWrapper; first | (rw [if_pos (by decide +kernel)]; kernel_rfl) | (rw [if_neg (by decide +kernel)]; exact ⟨rfl, rfl⟩))
    (fun os started H enc _ => mandateSigns_lifted os started H enc)
#print axioms mandateSigns_holds
set_option maxRecDepth 100000 in
theorem mandateRevokes_lifted (os : Os) (started : os.Started) (H : Type) (enc : TypeId × Value → H) :
    ReturnsInHanded {} Try.checked os 5 .any (Rows.mandateRevokesSpec.pre6 enc Try.prog Try.f5 Rows.mandateRevokesRow.domain false) (Rows.mandateRevokesSpec.post enc Try.prog Try.f5 false true false false) := by
  refine returnsInHanded_of_change (C := Try.checked) own started (by kernel_rfl) Try.func5
    (ChangeSpec.witness6 (enc := enc) (C := Try.checked) false ⟨#[], #[.slice none 0 0, .int .i64 0, .int .i64 0], []⟩ 8 (by kernel_rfl) (by kernel_rfl) (by kernel_rfl) (by kernel_rfl)) ?_
  intro W base args ds gs before hval hW _ _
  refine calls_true (P := Try.prog) laidOut ?_ ?_ (tb := 4) rfl Try.underlying4 rfl ?_ ?_ hval hW
  · rw [Try.params5]; simp only [List.mem_cons, List.not_mem_nil, or_false, forall_eq_or_imp, forall_eq]
    exact ⟨⟨by kernel_rfl, by decide +kernel⟩, ⟨by kernel_rfl, by decide +kernel⟩, ⟨by kernel_rfl, by decide +kernel⟩⟩
  · rw [Try.params5]; simp only [List.mem_cons, List.not_mem_nil, or_false, forall_eq_or_imp, forall_eq]
    exact ⟨by kernel_rfl, by kernel_rfl, by kernel_rfl⟩
  · rw [Try.params5]
    intro ds hd
    match ds, hd with
    | [d1, d2, d3], _ => rfl
  · rw [Try.params5]; exact pf5
theorem mandateRevokes_holds : Rows.MandateRevokesSaid :=
  OpenClaim.holds_of_wide 5 Try.f5 rfl rfl rfl rfl rfl rfl rfl ⟨rfl, rfl, rfl, rfl, rfl⟩ rfl rfl rfl rfl rfl (by kernel_rfl) Try.func5 (by kernel_rfl)
    (of_decide_eq_true (by kernel_rfl)) (by unfold Func.isWrapper; first | (rw [if_pos (by decide +kernel)]; kernel_rfl) | (rw [if_neg (by decide +kernel)]; exact ⟨rfl, rfl⟩))
    (fun os started H enc _ => mandateRevokes_lifted os started H enc)
#print axioms mandateRevokes_holds
set_option maxRecDepth 100000 in
theorem mandateAllows_lifted (os : Os) (started : os.Started) (H : Type) (enc : TypeId × Value → H) :
    ReturnsInHanded {} Try.checked os 6 .any (Rows.mandateAllowsSpec.pre6 enc Try.prog Try.f6 Rows.mandateAllowsRow.domain false) (Rows.mandateAllowsSpec.post enc Try.prog Try.f6 false true false false) := by
  refine returnsInHanded_of_change (C := Try.checked) own started (by kernel_rfl) Try.func6
    (ChangeSpec.witness6 (enc := enc) (C := Try.checked) false ⟨#[], #[.slice none 0 0, .agg #[.int .i64 0, .int .i64 0, .int .i64 0]], []⟩ 8 (by kernel_rfl) (by kernel_rfl) (by kernel_rfl) (by kernel_rfl)) ?_
  intro W base args ds gs before hval hW _ _
  refine calls_true (P := Try.prog) laidOut ?_ ?_ (tb := 4) rfl Try.underlying4 rfl ?_ ?_ hval hW
  · rw [Try.params6]; simp only [List.mem_cons, List.not_mem_nil, or_false, forall_eq_or_imp, forall_eq]
    exact ⟨⟨by kernel_rfl, by decide +kernel⟩, ⟨by kernel_rfl, by decide +kernel⟩⟩
  · rw [Try.params6]; simp only [List.mem_cons, List.not_mem_nil, or_false, forall_eq_or_imp, forall_eq]
    exact ⟨by kernel_rfl, by kernel_rfl⟩
  · rw [Try.params6]
    intro ds hd
    match ds, hd with
    | [d1, d2], _ => rfl
  · rw [Try.params6]; exact pf6
theorem mandateAllows_holds : Rows.MandateAllowsSaid :=
  OpenClaim.holds_of_wide 6 Try.f6 rfl rfl rfl rfl rfl rfl rfl ⟨rfl, rfl, rfl, rfl, rfl⟩ rfl rfl rfl rfl rfl (by kernel_rfl) Try.func6 (by kernel_rfl)
    (of_decide_eq_true (by kernel_rfl)) (by unfold Func.isWrapper; first | (rw [if_pos (by decide +kernel)]; kernel_rfl) | (rw [if_neg (by decide +kernel)]; exact ⟨rfl, rfl⟩))
    (fun os started H enc _ => mandateAllows_lifted os started H enc)
#print axioms mandateAllows_holds
set_option maxRecDepth 100000 in
theorem mandateGuards_lifted (os : Os) (started : os.Started) (H : Type) (enc : TypeId × Value → H) :
    ReturnsInHanded {} Try.checked os 7 .any (Rows.mandateGuardsSpec.pre6 enc Try.prog Try.f7 Rows.mandateGuardsRow.domain false) (Rows.mandateGuardsSpec.post enc Try.prog Try.f7 false true false false) := by
  refine returnsInHanded_of_change (C := Try.checked) own started (by kernel_rfl) Try.func7
    (ChangeSpec.witness6 (enc := enc) (C := Try.checked) false ⟨#[], #[.slice none 0 0, .agg #[.int .i64 0, .int .i64 0, .int .i64 0]], []⟩ 8 (by kernel_rfl) (by kernel_rfl) (by kernel_rfl) (by kernel_rfl)) ?_
  intro W base args ds gs before hval hW _ _
  refine calls_true (P := Try.prog) laidOut ?_ ?_ (tb := 4) rfl Try.underlying4 rfl ?_ ?_ hval hW
  · rw [Try.params7]; simp only [List.mem_cons, List.not_mem_nil, or_false, forall_eq_or_imp, forall_eq]
    exact ⟨⟨by kernel_rfl, by decide +kernel⟩, ⟨by kernel_rfl, by decide +kernel⟩⟩
  · rw [Try.params7]; simp only [List.mem_cons, List.not_mem_nil, or_false, forall_eq_or_imp, forall_eq]
    exact ⟨by kernel_rfl, by kernel_rfl⟩
  · rw [Try.params7]
    intro ds hd
    match ds, hd with
    | [d1, d2], _ => rfl
  · rw [Try.params7]; exact pf7
theorem mandateGuards_holds : Rows.MandateGuardsSaid :=
  OpenClaim.holds_of_wide 7 Try.f7 rfl rfl rfl rfl rfl rfl rfl ⟨rfl, rfl, rfl, rfl, rfl⟩ rfl rfl rfl rfl rfl (by kernel_rfl) Try.func7 (by kernel_rfl)
    (of_decide_eq_true (by kernel_rfl)) (by unfold Func.isWrapper; first | (rw [if_pos (by decide +kernel)]; kernel_rfl) | (rw [if_neg (by decide +kernel)]; exact ⟨rfl, rfl⟩))
    (fun os started H enc _ => mandateGuards_lifted os started H enc)
#print axioms mandateGuards_holds
set_option maxRecDepth 100000 in
theorem mandateEnds_lifted (os : Os) (started : os.Started) (H : Type) (enc : TypeId × Value → H) :
    ReturnsInHanded {} Try.checked os 8 .any (Rows.mandateEndsSpec.pre6 enc Try.prog Try.f8 Rows.mandateEndsRow.domain false) (Rows.mandateEndsSpec.post enc Try.prog Try.f8 false true false false) := by
  refine returnsInHanded_of_change (C := Try.checked) own started (by kernel_rfl) Try.func8
    (ChangeSpec.witness6 (enc := enc) (C := Try.checked) false ⟨#[], #[.slice none 0 0, .agg #[.int .i64 0, .int .i64 0, .int .i64 0], .int .i64 0], []⟩ 8 (by kernel_rfl) (by kernel_rfl) (by kernel_rfl) (by kernel_rfl)) ?_
  intro W base args ds gs before hval hW _ _
  refine calls_true (P := Try.prog) laidOut ?_ ?_ (tb := 4) rfl Try.underlying4 rfl ?_ ?_ hval hW
  · rw [Try.params8]; simp only [List.mem_cons, List.not_mem_nil, or_false, forall_eq_or_imp, forall_eq]
    exact ⟨⟨by kernel_rfl, by decide +kernel⟩, ⟨by kernel_rfl, by decide +kernel⟩, ⟨by kernel_rfl, by decide +kernel⟩⟩
  · rw [Try.params8]; simp only [List.mem_cons, List.not_mem_nil, or_false, forall_eq_or_imp, forall_eq]
    exact ⟨by kernel_rfl, by kernel_rfl, by kernel_rfl⟩
  · rw [Try.params8]
    intro ds hd
    match ds, hd with
    | [d1, d2, d3], _ => rfl
  · rw [Try.params8]; exact pf8
theorem mandateEnds_holds : Rows.MandateEndsSaid :=
  OpenClaim.holds_of_wide 8 Try.f8 rfl rfl rfl rfl rfl rfl rfl ⟨rfl, rfl, rfl, rfl, rfl⟩ rfl rfl rfl rfl rfl (by kernel_rfl) Try.func8 (by kernel_rfl)
    (of_decide_eq_true (by kernel_rfl)) (by unfold Func.isWrapper; first | (rw [if_pos (by decide +kernel)]; kernel_rfl) | (rw [if_neg (by decide +kernel)]; exact ⟨rfl, rfl⟩))
    (fun os started H enc _ => mandateEnds_lifted os started H enc)
#print axioms mandateEnds_holds
end Go.Proofs.Ytflcddjpnbefhaa
