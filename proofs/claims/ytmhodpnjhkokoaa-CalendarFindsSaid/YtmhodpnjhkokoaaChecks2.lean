/-
  The laws on adjusting days and on finding calendars answer true for every input, and their arguments read as they did.
-/
import Derived.Test.YtmhodpnjhkokoaaChecks
import Derived.Test.YtmhodpnjhkokoaaSpec7
import Derived.Test.YtmhodpnjhkokoaaSpec8
import Derived.Test.YtmhodpnjhkokoaaVmQ
namespace Go.Proofs.Ytmhodpnjhkokoaa
open Go.ChangeShapes Go.WideShapes Go.ChangeAt Go.RowKit Go.VM

theorem pf5 (xs : List V) (h : FitAll Try.prog [24, 3, 3] xs) : PF Try.prog 5 xs (.b true) := by
  obtain ⟨y1, r1, rfl, h1, y2, r2, rfl, h2, y3, r3, rfl, h3, rfl⟩ := h
  obtain ⟨c, rfl, _⟩ := fitT24 h1
  obtain ⟨d, rfl, _⟩ := fit_i64 Try.underlying3 h2
  obtain ⟨n, rfl, _⟩ := fit_i64 Try.underlying3 h3
  rw [pack24, pack3, pack3]
  exact (sound.2 5 _ _ (e5 c d n)).2
theorem fitB_ints {B n : Nat} {xs : List V} (h : FitB Try.prog B (n + 1) 22 xs) : ∃ es : List V, xs = [.l es] ∧ es.length ≤ maxLen ∧ es.length * 8 ≤ B := by
  unfold FitB at h
  rw [Try.underlying22] at h
  simp only at h
  obtain ⟨es, h1, ⟨h2, h3⟩, _⟩ := h
  have hb : Try.prog.bytesOf 3 = 8 := by kernel_rfl
  rw [hb] at h3
  exact ⟨es, h1, h2, h3⟩
theorem fitB_cal {B n : Nat} {c : Calendar} (h : FitB Try.prog B (n + 2) 24 c.cells) : (c.weekend.length ≤ maxLen ∧ c.weekend.length * 8 ≤ B) ∧ (c.holidays.length ≤ maxLen ∧ c.holidays.length * 8 ≤ B) := by
  unfold FitB at h
  rw [Try.underlying24] at h
  simp only [List.foldr_cons, List.foldr_nil] at h
  obtain ⟨a0, b0, e0, h0, a1, b1, rfl, h1, a2, b2, rfl, h2, rfl⟩ := h
  obtain ⟨w, rfl, hw1, hw2⟩ := fitB_ints h1
  obtain ⟨k, rfl, hk1, hk2⟩ := fitB_ints h2
  have h0' : ∃ s, a0 = [V.s s] := by
    unfold FitB at h0
    rw [Try.underlying9] at h0
    obtain ⟨s, h, _⟩ := h0
    exact ⟨s, h⟩
  obtain ⟨s, rfl⟩ := h0'
  simp only [Calendar.cells, List.cons_append, List.nil_append, List.cons.injEq, V.s.injEq, V.l.injEq, and_true] at e0
  obtain ⟨_, rfl, rfl⟩ := e0
  simp only [encL_length] at hw1 hw2 hk1 hk2
  exact ⟨⟨hw1, hw2⟩, hk1, hk2⟩
theorem pf10 (xs : List V) (h : FitAllB Try.prog reachBytes [42, 9] xs) : PF Try.prog 10 xs (.b true) := by
  obtain ⟨y1, r1, rfl, h1, y2, r2, rfl, h2, rfl⟩ := h
  obtain ⟨l, rfl, _, _⟩ := fitS42 (FitB.fit _ _ _ h1)
  obtain ⟨s, rfl, _⟩ := VM.fit_string Try.underlying9 (FitB.fit _ _ _ h2)
  have hh : ∀ c ∈ l, Held c := by
    unfold FitB at h1
    rw [Try.underlying42] at h1
    simp only at h1
    obtain ⟨es, e1, _, h3⟩ := h1
    simp only [List.cons.injEq, V.l.injEq, and_true] at e1
    subst e1
    intro c hc
    obtain ⟨ys, g1, g2⟩ := h3 c.v (List.mem_map.2 ⟨c, hc, rfl⟩)
    have ha : isAggB Try.prog 24 = true := by kernel_rfl
    rw [ha] at g2
    simp only [if_true, Calendar.v, V.a.injEq] at g2
    subst g2
    have := fitB_cal (c := c) g1
    have hr : reachBytes ≤ 140737488355328 := by decide
    exact ⟨⟨this.1.1, Nat.le_trans this.1.2 hr⟩, this.2.1, Nat.le_trans this.2.2 hr⟩
  rw [pack42, pack9]
  exact (sound.2 10 _ _ (e10 l s hh)).2
set_option maxRecDepth 100000 in
theorem calendarAdjusts_lifted (os : Os) (started : os.Started) (H : Type) (enc : TypeId × Value → H) :
    ReturnsInHanded {} Try.checked os 5 .any (Rows.calendarAdjustsSpec.pre6 enc Try.prog Try.f5 Rows.calendarAdjustsRow.domain false) (Rows.calendarAdjustsSpec.post enc Try.prog Try.f5 false true false false) := by
  refine returnsInHanded_of_change (C := Try.checked) own started (by kernel_rfl) Try.func5
    (ChangeSpec.witness6 (enc := enc) (C := Try.checked) false ⟨#[], #[.agg #[.string ⟨#[]⟩, .slice none 0 0, .slice none 0 0], .int .i64 0, .int .i64 0], []⟩ 8 (by kernel_rfl) (by kernel_rfl) (by kernel_rfl) (by kernel_rfl)) ?_
  intro W base args ds gs before hval hW _ _
  refine calls_true (P := Try.prog) laidOut ?_ ?_ (tb := 4) rfl Try.underlying4 rfl ?_ ?_ hval hW (fun _ h => by cases h)
  · rw [Try.params5]; simp only [List.mem_cons, List.not_mem_nil, or_false, forall_eq_or_imp, forall_eq]
    exact ⟨⟨by kernel_rfl, by decide +kernel⟩, ⟨by kernel_rfl, by decide +kernel⟩, ⟨by kernel_rfl, by decide +kernel⟩⟩
  · rw [Try.params5]; simp only [List.mem_cons, List.not_mem_nil, or_false, forall_eq_or_imp, forall_eq]
    exact ⟨by kernel_rfl, by kernel_rfl, by kernel_rfl⟩
  · rw [Try.params5]
    intro ds hd
    match ds, hd with
    | [d1, d2, d3], _ => rfl
  · rw [Try.params5]; exact pf5
theorem calendarAdjusts_holds : Rows.CalendarAdjustsSaid :=
  OpenClaim.holds_of_wide 5 Try.f5 rfl rfl rfl rfl rfl rfl rfl ⟨rfl, rfl, rfl, rfl, rfl⟩ rfl rfl rfl rfl rfl (by kernel_rfl) Try.func5 (by kernel_rfl)
    (of_decide_eq_true (by kernel_rfl)) (by unfold Func.isWrapper; first | (rw [if_pos (by decide +kernel)]; kernel_rfl) | (rw [if_neg (by decide +kernel)]; exact ⟨rfl, rfl⟩))
    (fun os started H enc _ => calendarAdjusts_lifted os started H enc)
#print axioms calendarAdjusts_holds
set_option maxRecDepth 100000 in
theorem calendarFinds_lifted (os : Os) (started : os.Started) (H : Type) (enc : TypeId × Value → H) :
    ReturnsInHanded {} Try.checked os 10 .any (Rows.calendarFindsSpec.pre6 enc Try.prog Try.f10 Rows.calendarFindsRow.domain false) (Rows.calendarFindsSpec.post enc Try.prog Try.f10 false true false false) := by
  refine returnsInHanded_of_change_sized (C := Try.checked) own started (by kernel_rfl) Try.func10
    (ChangeSpec.witness6 (enc := enc) (C := Try.checked) false ⟨#[], #[.slice none 0 0, .string ⟨#[]⟩], []⟩ 8 (by kernel_rfl) (by kernel_rfl) (by kernel_rfl) (by kernel_rfl)) ?_
  intro W base args ds gs before hval hW _ hwt _
  refine calls_trueB (P := Try.prog) laidOut ?_ ?_ (tb := 4) rfl Try.underlying4 rfl ?_ ?_ hval hW hwt (fun _ h => by cases h)
  · rw [Try.params10]; simp only [List.mem_cons, List.not_mem_nil, or_false, forall_eq_or_imp, forall_eq]
    exact ⟨⟨by kernel_rfl, by decide +kernel⟩, ⟨by kernel_rfl, by decide +kernel⟩⟩
  · rw [Try.params10]; simp only [List.mem_cons, List.not_mem_nil, or_false, forall_eq_or_imp, forall_eq]
    exact ⟨by kernel_rfl, by kernel_rfl⟩
  · rw [Try.params10]
    intro ds hd
    match ds, hd with
    | [d1, d2], _ => rfl
  · rw [Try.params10]; exact pf10
theorem calendarFinds_holds : Rows.CalendarFindsSaid :=
  OpenClaim.holds_of_wide 10 Try.f10 rfl rfl rfl rfl rfl rfl rfl ⟨rfl, rfl, rfl, rfl, rfl⟩ rfl rfl rfl rfl rfl (by kernel_rfl) Try.func10 (by kernel_rfl)
    (of_decide_eq_true (by kernel_rfl)) (by unfold Func.isWrapper; first | (rw [if_pos (by decide +kernel)]; kernel_rfl) | (rw [if_neg (by decide +kernel)]; exact ⟨rfl, rfl⟩))
    (fun os started H enc _ => calendarFinds_lifted os started H enc)
#print axioms calendarFinds_holds
end Go.Proofs.Ytmhodpnjhkokoaa
