/-
  The laws on calendars answer true for every input, and their arguments read as they did.
-/
import Derived.Test.YtmhodpnjhkokoaaRows
import Derived.Test.YtmhodpnjhkokoaaChecked
import Derived.Test.YtmhodpnjhkokoaaSpec5
import Derived.ProofKit
namespace Go.Proofs.Ytmhodpnjhkokoaa
open Go.ChangeShapes Go.WideShapes Go.ChangeAt Go.RowKit Go.VM

theorem sound : SoundO Try.prog O := by
  refine den_sound (fun f fc h => ?_) (fun f xs y h => ?_) mutOK
  · unfold tab2 at h
    split at h
    · cases h
    · exact codes_ok _ (tabOf_mem h)
  · unfold ext at h
    split at h
    · exact uniL_PF (.inl rfl) xs y h
    · exact uniL_PF (.inr rfl) xs y h
    · refine cloneL_PF (fun z hz => ?_) h
      exact cloneF_PF mutOK (t := 22) (tb := 4) (p1 := cp1) (p2 := #[]) (p3 := #[]) (p4 := cp4) (p5 := cp5) (zc := [.i .i64 0]) Try.func53 (by kernel_rfl) (by kernel_rfl) (by kernel_rfl) (by kernel_rfl) (by kernel_rfl) (by kernel_rfl) (by kernel_rfl) (by kernel_rfl) (by decide) xs z hz
    · cases h
theorem pf3 (xs : List V) (h : FitAll Try.prog [24] xs) : PF Try.prog 3 xs (.b true) := by
  obtain ⟨y1, r1, rfl, h1, rfl⟩ := h
  obtain ⟨c, rfl, _⟩ := fitT24 h1
  rw [pack24]
  exact (sound.2 3 _ _ (e3 c)).2
theorem pf4 (xs : List V) (h : FitAll Try.prog [24, 3] xs) : PF Try.prog 4 xs (.b true) := by
  obtain ⟨y1, r1, rfl, h1, y2, r2, rfl, h2, rfl⟩ := h
  obtain ⟨c, rfl, _⟩ := fitT24 h1
  obtain ⟨d, rfl, _⟩ := fit_i64 Try.underlying3 h2
  rw [pack24, pack3]
  exact (sound.2 4 _ _ (e4 c d)).2
theorem pf6 (xs : List V) (h : FitAll Try.prog [24, 3, 3] xs) : PF Try.prog 6 xs (.b true) := by
  obtain ⟨y1, r1, rfl, h1, y2, r2, rfl, h2, y3, r3, rfl, h3, rfl⟩ := h
  obtain ⟨c, rfl, _⟩ := fitT24 h1
  obtain ⟨d, rfl, _⟩ := fit_i64 Try.underlying3 h2
  obtain ⟨n, rfl, _⟩ := fit_i64 Try.underlying3 h3
  rw [pack24, pack3, pack3]
  exact (sound.2 6 _ _ (e6 c d n)).2
theorem pf7 (xs : List V) (h : FitAll Try.prog [24, 35] xs) : PF Try.prog 7 xs (.b true) := by
  obtain ⟨y1, r1, rfl, h1, y2, r2, rfl, h2, rfl⟩ := h
  obtain ⟨c, rfl, _⟩ := fitT24 h1
  obtain ⟨s, rfl, _⟩ := fitT35 h2
  rw [pack24, pack35]
  exact (sound.2 7 _ _ (e7 c s)).2
theorem pf8 (xs : List V) (h : FitAll Try.prog [24, 3, 3] xs) : PF Try.prog 8 xs (.b true) := by
  obtain ⟨y1, r1, rfl, h1, y2, r2, rfl, h2, y3, r3, rfl, h3, rfl⟩ := h
  obtain ⟨c, rfl, _⟩ := fitT24 h1
  obtain ⟨d, rfl, _⟩ := fit_i64 Try.underlying3 h2
  obtain ⟨n, rfl, _⟩ := fit_i64 Try.underlying3 h3
  rw [pack24, pack3, pack3]
  exact (sound.2 8 _ _ (e8 c d n)).2
theorem pf9 (xs : List V) (h : FitAll Try.prog [24, 24, 3] xs) : PF Try.prog 9 xs (.b true) := by
  obtain ⟨y1, r1, rfl, h1, y2, r2, rfl, h2, y3, r3, rfl, h3, rfl⟩ := h
  obtain ⟨a, rfl, ha⟩ := fitT24 h1
  obtain ⟨b, rfl, hb⟩ := fitT24 h2
  obtain ⟨d, rfl, _⟩ := fit_i64 Try.underlying3 h3
  rw [pack24, pack24, pack3]
  exact (sound.2 9 _ _ (e9 a b d ha.1 hb.1)).2
theorem own : ownKnob Try.prog.godebug = none := by kernel_rfl
theorem laidOut : laidOutB Try.prog = true := by kernel_rfl
set_option maxRecDepth 100000 in
theorem calendarChecks_lifted (os : Os) (started : os.Started) (H : Type) (enc : TypeId × Value → H) :
    ReturnsInHanded {} Try.checked os 3 .any (Rows.calendarChecksSpec.pre6 enc Try.prog Try.f3 Rows.calendarChecksRow.domain false) (Rows.calendarChecksSpec.post enc Try.prog Try.f3 false true false false) := by
  refine returnsInHanded_of_change (C := Try.checked) own started (by kernel_rfl) Try.func3
    (ChangeSpec.witness6 (enc := enc) (C := Try.checked) false ⟨#[], #[.agg #[.string ⟨#[]⟩, .slice none 0 0, .slice none 0 0]], []⟩ 8 (by kernel_rfl) (by kernel_rfl) (by kernel_rfl) (by kernel_rfl)) ?_
  intro W base args ds gs before hval hW _ _
  refine calls_true (P := Try.prog) laidOut ?_ ?_ (tb := 4) rfl Try.underlying4 rfl ?_ ?_ hval hW (fun _ h => by cases h)
  · rw [Try.params3]; simp only [List.mem_cons, List.not_mem_nil, or_false, forall_eq]
    exact ⟨by kernel_rfl, by decide +kernel⟩
  · rw [Try.params3]; simp only [List.mem_cons, List.not_mem_nil, or_false, forall_eq]
    kernel_rfl
  · rw [Try.params3]
    intro ds hd
    match ds, hd with
    | [d1], _ => rfl
  · rw [Try.params3]; exact pf3
theorem calendarChecks_holds : Rows.CalendarChecksSaid :=
  OpenClaim.holds_of_wide 3 Try.f3 rfl rfl rfl rfl rfl rfl rfl ⟨rfl, rfl, rfl, rfl, rfl⟩ rfl rfl rfl rfl rfl (by kernel_rfl) Try.func3 (by kernel_rfl)
    (of_decide_eq_true (by kernel_rfl)) (by unfold Func.isWrapper; first | (rw [if_pos (by decide +kernel)]; kernel_rfl) | (rw [if_neg (by decide +kernel)]; exact ⟨rfl, rfl⟩))
    (fun os started H enc _ => calendarChecks_lifted os started H enc)
#print axioms calendarChecks_holds
set_option maxRecDepth 100000 in
theorem calendarOpens_lifted (os : Os) (started : os.Started) (H : Type) (enc : TypeId × Value → H) :
    ReturnsInHanded {} Try.checked os 4 .any (Rows.calendarOpensSpec.pre6 enc Try.prog Try.f4 Rows.calendarOpensRow.domain false) (Rows.calendarOpensSpec.post enc Try.prog Try.f4 false true false false) := by
  refine returnsInHanded_of_change (C := Try.checked) own started (by kernel_rfl) Try.func4
    (ChangeSpec.witness6 (enc := enc) (C := Try.checked) false ⟨#[], #[.agg #[.string ⟨#[]⟩, .slice none 0 0, .slice none 0 0], .int .i64 0], []⟩ 8 (by kernel_rfl) (by kernel_rfl) (by kernel_rfl) (by kernel_rfl)) ?_
  intro W base args ds gs before hval hW _ _
  refine calls_true (P := Try.prog) laidOut ?_ ?_ (tb := 4) rfl Try.underlying4 rfl ?_ ?_ hval hW (fun _ h => by cases h)
  · rw [Try.params4]; simp only [List.mem_cons, List.not_mem_nil, or_false, forall_eq_or_imp, forall_eq]
    exact ⟨⟨by kernel_rfl, by decide +kernel⟩, ⟨by kernel_rfl, by decide +kernel⟩⟩
  · rw [Try.params4]; simp only [List.mem_cons, List.not_mem_nil, or_false, forall_eq_or_imp, forall_eq]
    exact ⟨by kernel_rfl, by kernel_rfl⟩
  · rw [Try.params4]
    intro ds hd
    match ds, hd with
    | [d1, d2], _ => rfl
  · rw [Try.params4]; exact pf4
theorem calendarOpens_holds : Rows.CalendarOpensSaid :=
  OpenClaim.holds_of_wide 4 Try.f4 rfl rfl rfl rfl rfl rfl rfl ⟨rfl, rfl, rfl, rfl, rfl⟩ rfl rfl rfl rfl rfl (by kernel_rfl) Try.func4 (by kernel_rfl)
    (of_decide_eq_true (by kernel_rfl)) (by unfold Func.isWrapper; first | (rw [if_pos (by decide +kernel)]; kernel_rfl) | (rw [if_neg (by decide +kernel)]; exact ⟨rfl, rfl⟩))
    (fun os started H enc _ => calendarOpens_lifted os started H enc)
#print axioms calendarOpens_holds
set_option maxRecDepth 100000 in
theorem calendarAdds_lifted (os : Os) (started : os.Started) (H : Type) (enc : TypeId × Value → H) :
    ReturnsInHanded {} Try.checked os 6 .any (Rows.calendarAddsSpec.pre6 enc Try.prog Try.f6 Rows.calendarAddsRow.domain false) (Rows.calendarAddsSpec.post enc Try.prog Try.f6 false true false false) := by
  refine returnsInHanded_of_change (C := Try.checked) own started (by kernel_rfl) Try.func6
    (ChangeSpec.witness6 (enc := enc) (C := Try.checked) false ⟨#[], #[.agg #[.string ⟨#[]⟩, .slice none 0 0, .slice none 0 0], .int .i64 0, .int .i64 0], []⟩ 8 (by kernel_rfl) (by kernel_rfl) (by kernel_rfl) (by kernel_rfl)) ?_
  intro W base args ds gs before hval hW _ _
  refine calls_true (P := Try.prog) laidOut ?_ ?_ (tb := 4) rfl Try.underlying4 rfl ?_ ?_ hval hW (fun _ h => by cases h)
  · rw [Try.params6]; simp only [List.mem_cons, List.not_mem_nil, or_false, forall_eq_or_imp, forall_eq]
    exact ⟨⟨by kernel_rfl, by decide +kernel⟩, ⟨by kernel_rfl, by decide +kernel⟩, ⟨by kernel_rfl, by decide +kernel⟩⟩
  · rw [Try.params6]; simp only [List.mem_cons, List.not_mem_nil, or_false, forall_eq_or_imp, forall_eq]
    exact ⟨by kernel_rfl, by kernel_rfl, by kernel_rfl⟩
  · rw [Try.params6]
    intro ds hd
    match ds, hd with
    | [d1, d2, d3], _ => rfl
  · rw [Try.params6]; exact pf6
theorem calendarAdds_holds : Rows.CalendarAddsSaid :=
  OpenClaim.holds_of_wide 6 Try.f6 rfl rfl rfl rfl rfl rfl rfl ⟨rfl, rfl, rfl, rfl, rfl⟩ rfl rfl rfl rfl rfl (by kernel_rfl) Try.func6 (by kernel_rfl)
    (of_decide_eq_true (by kernel_rfl)) (by unfold Func.isWrapper; first | (rw [if_pos (by decide +kernel)]; kernel_rfl) | (rw [if_neg (by decide +kernel)]; exact ⟨rfl, rfl⟩))
    (fun os started H enc _ => calendarAdds_lifted os started H enc)
#print axioms calendarAdds_holds
set_option maxRecDepth 100000 in
theorem calendarTallies_lifted (os : Os) (started : os.Started) (H : Type) (enc : TypeId × Value → H) :
    ReturnsInHanded {} Try.checked os 7 .any (Rows.calendarTalliesSpec.pre6 enc Try.prog Try.f7 Rows.calendarTalliesRow.domain false) (Rows.calendarTalliesSpec.post enc Try.prog Try.f7 false true false false) := by
  refine returnsInHanded_of_change (C := Try.checked) own started (by kernel_rfl) Try.func7
    (ChangeSpec.witness6 (enc := enc) (C := Try.checked) false ⟨#[], #[.agg #[.string ⟨#[]⟩, .slice none 0 0, .slice none 0 0], .agg #[.int .i64 0, .int .i64 0, .int .i64 0]], []⟩ 8 (by kernel_rfl) (by kernel_rfl) (by kernel_rfl) (by kernel_rfl)) ?_
  intro W base args ds gs before hval hW _ _
  refine calls_true (P := Try.prog) laidOut ?_ ?_ (tb := 4) rfl Try.underlying4 rfl ?_ ?_ hval hW (fun _ h => by cases h)
  · rw [Try.params7]; simp only [List.mem_cons, List.not_mem_nil, or_false, forall_eq_or_imp, forall_eq]
    exact ⟨⟨by kernel_rfl, by decide +kernel⟩, ⟨by kernel_rfl, by decide +kernel⟩⟩
  · rw [Try.params7]; simp only [List.mem_cons, List.not_mem_nil, or_false, forall_eq_or_imp, forall_eq]
    exact ⟨by kernel_rfl, by kernel_rfl⟩
  · rw [Try.params7]
    intro ds hd
    match ds, hd with
    | [d1, d2], _ => rfl
  · rw [Try.params7]; exact pf7
theorem calendarTallies_holds : Rows.CalendarTalliesSaid :=
  OpenClaim.holds_of_wide 7 Try.f7 rfl rfl rfl rfl rfl rfl rfl ⟨rfl, rfl, rfl, rfl, rfl⟩ rfl rfl rfl rfl rfl (by kernel_rfl) Try.func7 (by kernel_rfl)
    (of_decide_eq_true (by kernel_rfl)) (by unfold Func.isWrapper; first | (rw [if_pos (by decide +kernel)]; kernel_rfl) | (rw [if_neg (by decide +kernel)]; exact ⟨rfl, rfl⟩))
    (fun os started H enc _ => calendarTallies_lifted os started H enc)
#print axioms calendarTallies_holds
set_option maxRecDepth 100000 in
theorem calendarCounts_lifted (os : Os) (started : os.Started) (H : Type) (enc : TypeId × Value → H) :
    ReturnsInHanded {} Try.checked os 8 .any (Rows.calendarCountsSpec.pre6 enc Try.prog Try.f8 Rows.calendarCountsRow.domain false) (Rows.calendarCountsSpec.post enc Try.prog Try.f8 false true false false) := by
  refine returnsInHanded_of_change (C := Try.checked) own started (by kernel_rfl) Try.func8
    (ChangeSpec.witness6 (enc := enc) (C := Try.checked) false ⟨#[], #[.agg #[.string ⟨#[]⟩, .slice none 0 0, .slice none 0 0], .int .i64 0, .int .i64 0], []⟩ 8 (by kernel_rfl) (by kernel_rfl) (by kernel_rfl) (by kernel_rfl)) ?_
  intro W base args ds gs before hval hW _ _
  refine calls_true (P := Try.prog) laidOut ?_ ?_ (tb := 4) rfl Try.underlying4 rfl ?_ ?_ hval hW (fun _ h => by cases h)
  · rw [Try.params8]; simp only [List.mem_cons, List.not_mem_nil, or_false, forall_eq_or_imp, forall_eq]
    exact ⟨⟨by kernel_rfl, by decide +kernel⟩, ⟨by kernel_rfl, by decide +kernel⟩, ⟨by kernel_rfl, by decide +kernel⟩⟩
  · rw [Try.params8]; simp only [List.mem_cons, List.not_mem_nil, or_false, forall_eq_or_imp, forall_eq]
    exact ⟨by kernel_rfl, by kernel_rfl, by kernel_rfl⟩
  · rw [Try.params8]
    intro ds hd
    match ds, hd with
    | [d1, d2, d3], _ => rfl
  · rw [Try.params8]; exact pf8
theorem calendarCounts_holds : Rows.CalendarCountsSaid :=
  OpenClaim.holds_of_wide 8 Try.f8 rfl rfl rfl rfl rfl rfl rfl ⟨rfl, rfl, rfl, rfl, rfl⟩ rfl rfl rfl rfl rfl (by kernel_rfl) Try.func8 (by kernel_rfl)
    (of_decide_eq_true (by kernel_rfl)) (by unfold Func.isWrapper; first | (rw [if_pos (by decide +kernel)]; kernel_rfl) | (rw [if_neg (by decide +kernel)]; exact ⟨rfl, rfl⟩))
    (fun os started H enc _ => calendarCounts_lifted os started H enc)
#print axioms calendarCounts_holds
set_option maxRecDepth 100000 in
theorem calendarJoins_lifted (os : Os) (started : os.Started) (H : Type) (enc : TypeId × Value → H) :
    ReturnsInHanded {} Try.checked os 9 .any (Rows.calendarJoinsSpec.pre6 enc Try.prog Try.f9 Rows.calendarJoinsRow.domain false) (Rows.calendarJoinsSpec.post enc Try.prog Try.f9 false true false false) := by
  refine returnsInHanded_of_change (C := Try.checked) own started (by kernel_rfl) Try.func9
    (ChangeSpec.witness6 (enc := enc) (C := Try.checked) false ⟨#[], #[.agg #[.string ⟨#[]⟩, .slice none 0 0, .slice none 0 0], .agg #[.string ⟨#[]⟩, .slice none 0 0, .slice none 0 0], .int .i64 0], []⟩ 8 (by kernel_rfl) (by kernel_rfl) (by kernel_rfl) (by kernel_rfl)) ?_
  intro W base args ds gs before hval hW _ _
  refine calls_true (P := Try.prog) laidOut ?_ ?_ (tb := 4) rfl Try.underlying4 rfl ?_ ?_ hval hW (fun _ h => by cases h)
  · rw [Try.params9]; simp only [List.mem_cons, List.not_mem_nil, or_false, forall_eq_or_imp, forall_eq]
    exact ⟨⟨by kernel_rfl, by decide +kernel⟩, ⟨by kernel_rfl, by decide +kernel⟩, ⟨by kernel_rfl, by decide +kernel⟩⟩
  · rw [Try.params9]; simp only [List.mem_cons, List.not_mem_nil, or_false, forall_eq_or_imp, forall_eq]
    exact ⟨by kernel_rfl, by kernel_rfl, by kernel_rfl⟩
  · rw [Try.params9]
    intro ds hd
    match ds, hd with
    | [d1, d2, d3], _ => rfl
  · rw [Try.params9]; exact pf9
theorem calendarJoins_holds : Rows.CalendarJoinsSaid :=
  OpenClaim.holds_of_wide 9 Try.f9 rfl rfl rfl rfl rfl rfl rfl ⟨rfl, rfl, rfl, rfl, rfl⟩ rfl rfl rfl rfl rfl (by kernel_rfl) Try.func9 (by kernel_rfl)
    (of_decide_eq_true (by kernel_rfl)) (by unfold Func.isWrapper; first | (rw [if_pos (by decide +kernel)]; kernel_rfl) | (rw [if_neg (by decide +kernel)]; exact ⟨rfl, rfl⟩))
    (fun os started H enc _ => calendarJoins_lifted os started H enc)
#print axioms calendarJoins_holds
end Go.Proofs.Ytmhodpnjhkokoaa
