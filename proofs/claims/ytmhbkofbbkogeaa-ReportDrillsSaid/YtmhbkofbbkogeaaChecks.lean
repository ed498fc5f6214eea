/-
  The laws on rows, cells, entries and their sums answer true for every input, and their arguments read as they did.
-/
import Derived.Test.YtmhbkofbbkogeaaRows
import Derived.Test.YtmhbkofbbkogeaaChecked
import Derived.Test.YtmhbkofbbkogeaaLaws2
import Derived.Test.YtmhbkofbbkogeaaVmS
import Derived.ProofKit
namespace Go.Proofs.Ytmhbkofbbkogeaa
open Go.ChangeShapes Go.WideShapes Go.ChangeAt Go.RowKit Go.VM

theorem books_okBk {b : Books} (h : b.ok) : okBk b := fun p hp => by
  have := h.2.2.2.2.1.2 p hp
  obtain ⟨_, _, _, _, _, _, _, _, _, ⟨_, hf⟩, ⟨_, hr⟩⟩ := this
  exact ⟨fun f h => ⟨(hf f h).2.2.1.2.2.2.2, (hf f h).2.2.2.2.2.2.2⟩, fun f h => (hr f h).2.2.2.2.2.2⟩
set_option maxRecDepth 100000 in
theorem arg33 {ys : List V} (h : Fit Try.prog 310 33 ys) : ∃ b : Books, ys = b.cells ∧ b.ok := fitT33 (n := 5) h
set_option maxRecDepth 100000 in
theorem arg34 {ys : List V} (h : Fit Try.prog 310 34 ys) : ∃ l : List Row, ys = [.l (encL Row.v l)] ∧ l.length ≤ maxLen ∧ ∀ y ∈ l, y.ok := fitS34 (n := 306) h
set_option maxRecDepth 100000 in
theorem arg48 {ys : List V} (h : Fit Try.prog 310 48 ys) : ∃ r : Row, ys = r.cells ∧ r.ok := fitT48 (n := 307) h
set_option maxRecDepth 100000 in
theorem arg50 {ys : List V} (h : Fit Try.prog 310 50 ys) : ∃ r : Query, ys = r.cells ∧ r.ok := fitT50 (n := 308) h
set_option maxRecDepth 100000 in
theorem arg3 {ys : List V} (h : Fit Try.prog 310 3 ys) : ∃ n : Int, ys = [.i .i64 n] ∧ I64 n := fit_i64 Try.underlying3 (n := 309) h
set_option maxRecDepth 100000 in
theorem pf3 (xs : List V) (h : FitAllN Try.prog 310 [33, 34, 3] xs) : PF Try.prog 3 xs (.b true) := by
  obtain ⟨y1, r1, rfl, h1, y2, r2, rfl, h2, y3, r3, rfl, h3, rfl⟩ := h
  obtain ⟨b, rfl, hb⟩ := arg33 h1
  obtain ⟨l, rfl, hl, _⟩ := arg34 h2
  obtain ⟨n, rfl, _⟩ := arg3 h3
  rw [pack33, pack34, pack3]
  exact (soundB.2 3 _ _ (e3 b l n (books_okBk hb) hl)).2
set_option maxRecDepth 100000 in
theorem pf4 (xs : List V) (h : FitAllN Try.prog 310 [33, 34, 3] xs) : PF Try.prog 4 xs (.b true) := by
  obtain ⟨y1, r1, rfl, h1, y2, r2, rfl, h2, y3, r3, rfl, h3, rfl⟩ := h
  obtain ⟨b, rfl, hb⟩ := arg33 h1
  obtain ⟨l, rfl, hl, _⟩ := arg34 h2
  obtain ⟨n, rfl, _⟩ := arg3 h3
  rw [pack33, pack34, pack3]
  exact (soundB.2 4 _ _ (e4 b l n (books_okBk hb) hl)).2
set_option maxRecDepth 100000 in
theorem pf5 (xs : List V) (h : FitAllN Try.prog 310 [33, 48, 50] xs) : PF Try.prog 5 xs (.b true) := by
  obtain ⟨y1, r1, rfl, h1, y2, r2, rfl, h2, y3, r3, rfl, h3, rfl⟩ := h
  obtain ⟨b, rfl, hb⟩ := arg33 h1
  obtain ⟨r, rfl, hr⟩ := arg48 h2
  obtain ⟨q, rfl, _⟩ := arg50 h3
  rw [pack33, pack48, pack50]
  exact (soundB.2 5 _ _ (e5 b r q (books_okBk hb) hr.1)).2
set_option maxRecDepth 100000 in
theorem pf6 (xs : List V) (h : FitAllN Try.prog 310 [33, 34, 3] xs) : PF Try.prog 6 xs (.b true) := by
  obtain ⟨y1, r1, rfl, h1, y2, r2, rfl, h2, y3, r3, rfl, h3, rfl⟩ := h
  obtain ⟨b, rfl, hb⟩ := arg33 h1
  obtain ⟨l, rfl, hl, _⟩ := arg34 h2
  obtain ⟨n, rfl, _⟩ := arg3 h3
  rw [pack33, pack34, pack3]
  exact (soundB.2 6 _ _ (e6 b l n (books_okBk hb) hl)).2
theorem own : ownKnob Try.prog.godebug = none := by kernel_rfl
theorem laidOut : laidOutB Try.prog = true := by kernel_rfl
set_option maxRecDepth 100000 in
theorem reportChecks_lifted (os : Os) (started : os.Started) (H : Type) (enc : TypeId × Value → H) :
    ReturnsInHanded {} Try.checked os 3 .any (Rows.reportChecksSpec.pre6 enc Try.prog Try.f3 Rows.reportChecksRow.domain false) (Rows.reportChecksSpec.post enc Try.prog Try.f3 false true false false) := by
  refine returnsInHanded_of_change (C := Try.checked) own started (by kernel_rfl) Try.func3
    (ChangeSpec.witness6 (enc := enc) (C := Try.checked) false ⟨#[], #[.agg #[.slice none 0 0, .slice none 0 0, .slice none 0 0, .int .i64 0, .int .i64 0, .int .i64 0, .int .i64 0, .int .i64 0, .int .i64 0, .int .i64 0, .int .i64 0, .int .i64 0, .int .i64 0, .int .i64 0, .int .i64 0, .int .i64 0, .int .i64 0, .slice none 0 0, .slice none 0 0, .slice none 0 0, .slice none 0 0, .slice none 0 0], .slice none 0 0, .int .i64 0], []⟩ 8 (by kernel_rfl) (by kernel_rfl) (by kernel_rfl) (by kernel_rfl)) ?_
  intro W base args ds gs before hval hW _ _
  refine calls_trueRN 310 (P := Try.prog) laidOut ?_ ?_ (tb := 4) rfl Try.underlying4 rfl ?_ ?_ hval hW (fun _ h => by cases h)
  · rw [Try.params3]; simp only [List.mem_cons, List.not_mem_nil, or_false, forall_eq_or_imp, forall_eq]
    exact ⟨⟨by kernel_rfl, by decide +kernel⟩, ⟨by kernel_rfl, by decide +kernel⟩, ⟨by kernel_rfl, by decide +kernel⟩⟩
  · rw [Try.params3]; simp only [List.mem_cons, List.not_mem_nil, or_false, forall_eq_or_imp, forall_eq]
    exact ⟨by kernel_rfl, by kernel_rfl, by kernel_rfl⟩
  · rw [Try.params3]
    intro ds hd
    match ds, hd with
    | [d1, d2, d3], _ => rfl
  · rw [Try.params3]; exact pf3
theorem reportChecks_holds : Rows.ReportChecksSaid :=
  OpenClaim.holds_of_wide 3 Try.f3 rfl rfl rfl rfl rfl rfl rfl ⟨rfl, rfl, rfl, rfl, rfl⟩ rfl rfl rfl rfl rfl (by kernel_rfl) Try.func3 (by kernel_rfl)
    (of_decide_eq_true (by kernel_rfl)) (by unfold Func.isWrapper; first | (rw [if_pos (by decide +kernel)]; kernel_rfl) | (rw [if_neg (by decide +kernel)]; exact ⟨rfl, rfl⟩))
    (fun os started H enc _ => reportChecks_lifted os started H enc)
#print axioms reportChecks_holds
set_option maxRecDepth 100000 in
theorem reportMakes_lifted (os : Os) (started : os.Started) (H : Type) (enc : TypeId × Value → H) :
    ReturnsInHanded {} Try.checked os 4 .any (Rows.reportMakesSpec.pre6 enc Try.prog Try.f4 Rows.reportMakesRow.domain false) (Rows.reportMakesSpec.post enc Try.prog Try.f4 false true false false) := by
  refine returnsInHanded_of_change (C := Try.checked) own started (by kernel_rfl) Try.func4
    (ChangeSpec.witness6 (enc := enc) (C := Try.checked) false ⟨#[], #[.agg #[.slice none 0 0, .slice none 0 0, .slice none 0 0, .int .i64 0, .int .i64 0, .int .i64 0, .int .i64 0, .int .i64 0, .int .i64 0, .int .i64 0, .int .i64 0, .int .i64 0, .int .i64 0, .int .i64 0, .int .i64 0, .int .i64 0, .int .i64 0, .slice none 0 0, .slice none 0 0, .slice none 0 0, .slice none 0 0, .slice none 0 0], .slice none 0 0, .int .i64 0], []⟩ 8 (by kernel_rfl) (by kernel_rfl) (by kernel_rfl) (by kernel_rfl)) ?_
  intro W base args ds gs before hval hW _ _
  refine calls_trueRN 310 (P := Try.prog) laidOut ?_ ?_ (tb := 4) rfl Try.underlying4 rfl ?_ ?_ hval hW (fun _ h => by cases h)
  · rw [Try.params4]; simp only [List.mem_cons, List.not_mem_nil, or_false, forall_eq_or_imp, forall_eq]
    exact ⟨⟨by kernel_rfl, by decide +kernel⟩, ⟨by kernel_rfl, by decide +kernel⟩, ⟨by kernel_rfl, by decide +kernel⟩⟩
  · rw [Try.params4]; simp only [List.mem_cons, List.not_mem_nil, or_false, forall_eq_or_imp, forall_eq]
    exact ⟨by kernel_rfl, by kernel_rfl, by kernel_rfl⟩
  · rw [Try.params4]
    intro ds hd
    match ds, hd with
    | [d1, d2, d3], _ => rfl
  · rw [Try.params4]; exact pf4
theorem reportMakes_holds : Rows.ReportMakesSaid :=
  OpenClaim.holds_of_wide 4 Try.f4 rfl rfl rfl rfl rfl rfl rfl ⟨rfl, rfl, rfl, rfl, rfl⟩ rfl rfl rfl rfl rfl (by kernel_rfl) Try.func4 (by kernel_rfl)
    (of_decide_eq_true (by kernel_rfl)) (by unfold Func.isWrapper; first | (rw [if_pos (by decide +kernel)]; kernel_rfl) | (rw [if_neg (by decide +kernel)]; exact ⟨rfl, rfl⟩))
    (fun os started H enc _ => reportMakes_lifted os started H enc)
#print axioms reportMakes_holds
set_option maxRecDepth 100000 in
theorem reportEntries_lifted (os : Os) (started : os.Started) (H : Type) (enc : TypeId × Value → H) :
    ReturnsInHanded {} Try.checked os 5 .any (Rows.reportEntriesSpec.pre6 enc Try.prog Try.f5 Rows.reportEntriesRow.domain false) (Rows.reportEntriesSpec.post enc Try.prog Try.f5 false true false false) := by
  refine returnsInHanded_of_change (C := Try.checked) own started (by kernel_rfl) Try.func5
    (ChangeSpec.witness6 (enc := enc) (C := Try.checked) false ⟨#[], #[.agg #[.slice none 0 0, .slice none 0 0, .slice none 0 0, .int .i64 0, .int .i64 0, .int .i64 0, .int .i64 0, .int .i64 0, .int .i64 0, .int .i64 0, .int .i64 0, .int .i64 0, .int .i64 0, .int .i64 0, .int .i64 0, .int .i64 0, .int .i64 0, .slice none 0 0, .slice none 0 0, .slice none 0 0, .slice none 0 0, .slice none 0 0], .agg #[.string ⟨#[]⟩, .int .i64 0, .slice none 0 0], .agg #[.string ⟨#[]⟩, .int .i64 0, .int .i64 0]], []⟩ 8 (by kernel_rfl) (by kernel_rfl) (by kernel_rfl) (by kernel_rfl)) ?_
  intro W base args ds gs before hval hW _ _
  refine calls_trueRN 310 (P := Try.prog) laidOut ?_ ?_ (tb := 4) rfl Try.underlying4 rfl ?_ ?_ hval hW (fun _ h => by cases h)
  · rw [Try.params5]; simp only [List.mem_cons, List.not_mem_nil, or_false, forall_eq_or_imp, forall_eq]
    exact ⟨⟨by kernel_rfl, by decide +kernel⟩, ⟨by kernel_rfl, by decide +kernel⟩, ⟨by kernel_rfl, by decide +kernel⟩⟩
  · rw [Try.params5]; simp only [List.mem_cons, List.not_mem_nil, or_false, forall_eq_or_imp, forall_eq]
    exact ⟨by kernel_rfl, by kernel_rfl, by kernel_rfl⟩
  · rw [Try.params5]
    intro ds hd
    match ds, hd with
    | [d1, d2, d3], _ => rfl
  · rw [Try.params5]; exact pf5
theorem reportEntries_holds : Rows.ReportEntriesSaid :=
  OpenClaim.holds_of_wide 5 Try.f5 rfl rfl rfl rfl rfl rfl rfl ⟨rfl, rfl, rfl, rfl, rfl⟩ rfl rfl rfl rfl rfl (by kernel_rfl) Try.func5 (by kernel_rfl)
    (of_decide_eq_true (by kernel_rfl)) (by unfold Func.isWrapper; first | (rw [if_pos (by decide +kernel)]; kernel_rfl) | (rw [if_neg (by decide +kernel)]; exact ⟨rfl, rfl⟩))
    (fun os started H enc _ => reportEntries_lifted os started H enc)
#print axioms reportEntries_holds
set_option maxRecDepth 100000 in
theorem reportDrills_lifted (os : Os) (started : os.Started) (H : Type) (enc : TypeId × Value → H) :
    ReturnsInHanded {} Try.checked os 6 .any (Rows.reportDrillsSpec.pre6 enc Try.prog Try.f6 Rows.reportDrillsRow.domain false) (Rows.reportDrillsSpec.post enc Try.prog Try.f6 false true false false) := by
  refine returnsInHanded_of_change (C := Try.checked) own started (by kernel_rfl) Try.func6
    (ChangeSpec.witness6 (enc := enc) (C := Try.checked) false ⟨#[], #[.agg #[.slice none 0 0, .slice none 0 0, .slice none 0 0, .int .i64 0, .int .i64 0, .int .i64 0, .int .i64 0, .int .i64 0, .int .i64 0, .int .i64 0, .int .i64 0, .int .i64 0, .int .i64 0, .int .i64 0, .int .i64 0, .int .i64 0, .int .i64 0, .slice none 0 0, .slice none 0 0, .slice none 0 0, .slice none 0 0, .slice none 0 0], .slice none 0 0, .int .i64 0], []⟩ 8 (by kernel_rfl) (by kernel_rfl) (by kernel_rfl) (by kernel_rfl)) ?_
  intro W base args ds gs before hval hW _ _
  refine calls_trueRN 310 (P := Try.prog) laidOut ?_ ?_ (tb := 4) rfl Try.underlying4 rfl ?_ ?_ hval hW (fun _ h => by cases h)
  · rw [Try.params6]; simp only [List.mem_cons, List.not_mem_nil, or_false, forall_eq_or_imp, forall_eq]
    exact ⟨⟨by kernel_rfl, by decide +kernel⟩, ⟨by kernel_rfl, by decide +kernel⟩, ⟨by kernel_rfl, by decide +kernel⟩⟩
  · rw [Try.params6]; simp only [List.mem_cons, List.not_mem_nil, or_false, forall_eq_or_imp, forall_eq]
    exact ⟨by kernel_rfl, by kernel_rfl, by kernel_rfl⟩
  · rw [Try.params6]
    intro ds hd
    match ds, hd with
    | [d1, d2, d3], _ => rfl
  · rw [Try.params6]; exact pf6
theorem reportDrills_holds : Rows.ReportDrillsSaid :=
  OpenClaim.holds_of_wide 6 Try.f6 rfl rfl rfl rfl rfl rfl rfl ⟨rfl, rfl, rfl, rfl, rfl⟩ rfl rfl rfl rfl rfl (by kernel_rfl) Try.func6 (by kernel_rfl)
    (of_decide_eq_true (by kernel_rfl)) (by unfold Func.isWrapper; first | (rw [if_pos (by decide +kernel)]; kernel_rfl) | (rw [if_neg (by decide +kernel)]; exact ⟨rfl, rfl⟩))
    (fun os started H enc _ => reportDrills_lifted os started H enc)
#print axioms reportDrills_holds
end Go.Proofs.Ytmhbkofbbkogeaa
