/-
  The laws on charts answer true for every input, and their arguments read as they did.
-/
import Derived.Test.YtdaclkakglmfeaaRows
import Derived.Test.YtdaclkakglmfeaaChecked
import Derived.Test.YtdaclkakglmfeaaLaws2
import Derived.Test.YtdaclkakglmfeaaVmL
import Derived.ProofKit
namespace Go.Proofs.Ytdaclkakglmfeaa
open Go.ChangeShapes Go.WideShapes Go.ChangeAt Go.RowKit Go.VM

theorem arg22 {ys : List V} (h : Fit Try.prog 12 22 ys) : ∃ l : List Gl, ys = [.l (encL Gl.v l)] ∧ l.length ≤ maxLen ∧ ∀ y ∈ l, y.ok := fitS22 (n := 9) h
theorem arg24 {ys : List V} (h : Fit Try.prog 12 24 ys) : ∃ x : Plan, ys = x.cells ∧ x.ok := fitT24 (n := 10) h
theorem arg3 {ys : List V} (h : Fit Try.prog 12 3 ys) : ∃ n : Int, ys = [.i .i64 n] ∧ I64 n := fit_i64 Try.underlying3 (n := 11) h
theorem pack3 (x : V) : packT Try.prog 3 [x] = x := pack_one (by kernel_rfl) x
theorem gl_names {l : List Gl} (h : ∀ y ∈ l, y.ok) : ∀ g ∈ l, g.name.length ≤ maxLen := fun g hg => (h g hg).2.2.2
theorem pf3 (xs : List V) (h : FitAll Try.prog [22, 24] xs) : PF Try.prog 3 xs (.b true) := by
  obtain ⟨y1, r1, rfl, h1, y2, r2, rfl, h2, rfl⟩ := h
  obtain ⟨l, rfl, hl, hk⟩ := arg22 h1
  obtain ⟨p, rfl, _⟩ := arg24 h2
  rw [pack22, pack24]
  exact (sound.2 3 _ _ (e3 l p (gl_names hk) hl)).2
theorem pf4 (xs : List V) (h : FitAll Try.prog [22, 3, 3] xs) : PF Try.prog 4 xs (.b true) := by
  obtain ⟨y1, r1, rfl, h1, y2, r2, rfl, h2, y3, r3, rfl, h3, rfl⟩ := h
  obtain ⟨l, rfl, hl, hk⟩ := arg22 h1
  obtain ⟨n, rfl, _⟩ := arg3 h2
  obtain ⟨m, rfl, _⟩ := arg3 h3
  rw [pack22, pack3, pack3]
  exact (sound.2 4 _ _ (e4 l n m)).2
theorem pf5 (xs : List V) (h : FitAll Try.prog [22, 3] xs) : PF Try.prog 5 xs (.b true) := by
  obtain ⟨y1, r1, rfl, h1, y2, r2, rfl, h2, rfl⟩ := h
  obtain ⟨l, rfl, hl, hk⟩ := arg22 h1
  obtain ⟨n, rfl, _⟩ := arg3 h2
  rw [pack22, pack3]
  exact (sound.2 5 _ _ (e5 l n)).2
theorem pf6 (xs : List V) (h : FitAll Try.prog [3] xs) : PF Try.prog 6 xs (.b true) := by
  obtain ⟨y1, r1, rfl, h1, rfl⟩ := h
  obtain ⟨n, rfl, _⟩ := arg3 h1
  rw [pack3]
  exact (sound.2 6 _ _ (e6 n)).2
theorem own : ownKnob Try.prog.godebug = none := by kernel_rfl
theorem laidOut : laidOutB Try.prog = true := by kernel_rfl
set_option maxRecDepth 100000 in
theorem chartChecks_lifted (os : Os) (started : os.Started) (H : Type) (enc : TypeId × Value → H) :
    ReturnsInHanded {} Try.checked os 3 .any (Rows.chartChecksSpec.pre6 enc Try.prog Try.f3 Rows.chartChecksRow.domain false) (Rows.chartChecksSpec.post enc Try.prog Try.f3 false true false false) := by
  refine returnsInHanded_of_change (C := Try.checked) own started (by kernel_rfl) Try.func3
    (ChangeSpec.witness6 (enc := enc) (C := Try.checked) false ⟨#[], #[.slice none 0 0, .agg #[.int .i64 0, .int .i64 0, .int .i64 0, .int .i64 0, .int .i64 0, .int .i64 0, .int .i64 0, .int .i64 0, .int .i64 0, .int .i64 0, .int .i64 0, .int .i64 0, .int .i64 0, .int .i64 0]], []⟩ 8 (by kernel_rfl) (by kernel_rfl) (by kernel_rfl) (by kernel_rfl)) ?_
  intro W base args ds gs before hval hW _ _
  refine calls_true (P := Try.prog) laidOut ?_ ?_ (tb := 4) rfl Try.underlying4 rfl ?_ ?_ hval hW (fun _ h => by cases h)
  · rw [Try.params3]; simp only [List.mem_cons, List.not_mem_nil, or_false, forall_eq_or_imp, forall_eq]
    exact ⟨⟨by kernel_rfl, by decide +kernel⟩, ⟨by kernel_rfl, by decide +kernel⟩⟩
  · rw [Try.params3]; simp only [List.mem_cons, List.not_mem_nil, or_false, forall_eq_or_imp, forall_eq]
    exact ⟨by kernel_rfl, by kernel_rfl⟩
  · rw [Try.params3]
    intro ds hd
    match ds, hd with
    | [d1, d2], _ => rfl
  · rw [Try.params3]; exact pf3
theorem chartChecks_holds : Rows.ChartChecksSaid :=
  OpenClaim.holds_of_wide 3 Try.f3 rfl rfl rfl rfl rfl rfl rfl ⟨rfl, rfl, rfl, rfl, rfl⟩ rfl rfl rfl rfl rfl (by kernel_rfl) Try.func3 (by kernel_rfl)
    (of_decide_eq_true (by kernel_rfl)) (by unfold Func.isWrapper; first | (rw [if_pos (by decide +kernel)]; kernel_rfl) | (rw [if_neg (by decide +kernel)]; exact ⟨rfl, rfl⟩))
    (fun os started H enc _ => chartChecks_lifted os started H enc)
#print axioms chartChecks_holds
set_option maxRecDepth 100000 in
theorem chartPaths_lifted (os : Os) (started : os.Started) (H : Type) (enc : TypeId × Value → H) :
    ReturnsInHanded {} Try.checked os 4 .any (Rows.chartPathsSpec.pre6 enc Try.prog Try.f4 Rows.chartPathsRow.domain false) (Rows.chartPathsSpec.post enc Try.prog Try.f4 false true false false) := by
  refine returnsInHanded_of_change (C := Try.checked) own started (by kernel_rfl) Try.func4
    (ChangeSpec.witness6 (enc := enc) (C := Try.checked) false ⟨#[], #[.slice none 0 0, .int .i64 0, .int .i64 0], []⟩ 8 (by kernel_rfl) (by kernel_rfl) (by kernel_rfl) (by kernel_rfl)) ?_
  intro W base args ds gs before hval hW _ _
  refine calls_true (P := Try.prog) laidOut ?_ ?_ (tb := 4) rfl Try.underlying4 rfl ?_ ?_ hval hW (fun _ h => by cases h)
  · rw [Try.params4]; simp only [List.mem_cons, List.not_mem_nil, or_false, forall_eq_or_imp, forall_eq]
    exact ⟨⟨by kernel_rfl, by decide +kernel⟩, ⟨by kernel_rfl, by decide +kernel⟩, ⟨by kernel_rfl, by decide +kernel⟩⟩
  · rw [Try.params4]; simp only [List.mem_cons, List.not_mem_nil, or_false, forall_eq_or_imp, forall_eq]
    exact ⟨by kernel_rfl, by kernel_rfl, by kernel_rfl⟩
  · rw [Try.params4]
    intro ds hd
    match ds, hd with
    | [d1, d2, d3], _ => rfl
  · rw [Try.params4]; exact pf4
theorem chartPaths_holds : Rows.ChartPathsSaid :=
  OpenClaim.holds_of_wide 4 Try.f4 rfl rfl rfl rfl rfl rfl rfl ⟨rfl, rfl, rfl, rfl, rfl⟩ rfl rfl rfl rfl rfl (by kernel_rfl) Try.func4 (by kernel_rfl)
    (of_decide_eq_true (by kernel_rfl)) (by unfold Func.isWrapper; first | (rw [if_pos (by decide +kernel)]; kernel_rfl) | (rw [if_neg (by decide +kernel)]; exact ⟨rfl, rfl⟩))
    (fun os started H enc _ => chartPaths_lifted os started H enc)
#print axioms chartPaths_holds
set_option maxRecDepth 100000 in
theorem chartLeaves_lifted (os : Os) (started : os.Started) (H : Type) (enc : TypeId × Value → H) :
    ReturnsInHanded {} Try.checked os 5 .any (Rows.chartLeavesSpec.pre6 enc Try.prog Try.f5 Rows.chartLeavesRow.domain false) (Rows.chartLeavesSpec.post enc Try.prog Try.f5 false true false false) := by
  refine returnsInHanded_of_change (C := Try.checked) own started (by kernel_rfl) Try.func5
    (ChangeSpec.witness6 (enc := enc) (C := Try.checked) false ⟨#[], #[.slice none 0 0, .int .i64 0], []⟩ 8 (by kernel_rfl) (by kernel_rfl) (by kernel_rfl) (by kernel_rfl)) ?_
  intro W base args ds gs before hval hW _ _
  refine calls_true (P := Try.prog) laidOut ?_ ?_ (tb := 4) rfl Try.underlying4 rfl ?_ ?_ hval hW (fun _ h => by cases h)
  · rw [Try.params5]; simp only [List.mem_cons, List.not_mem_nil, or_false, forall_eq_or_imp, forall_eq]
    exact ⟨⟨by kernel_rfl, by decide +kernel⟩, ⟨by kernel_rfl, by decide +kernel⟩⟩
  · rw [Try.params5]; simp only [List.mem_cons, List.not_mem_nil, or_false, forall_eq_or_imp, forall_eq]
    exact ⟨by kernel_rfl, by kernel_rfl⟩
  · rw [Try.params5]
    intro ds hd
    match ds, hd with
    | [d1, d2], _ => rfl
  · rw [Try.params5]; exact pf5
theorem chartLeaves_holds : Rows.ChartLeavesSaid :=
  OpenClaim.holds_of_wide 5 Try.f5 rfl rfl rfl rfl rfl rfl rfl ⟨rfl, rfl, rfl, rfl, rfl⟩ rfl rfl rfl rfl rfl (by kernel_rfl) Try.func5 (by kernel_rfl)
    (of_decide_eq_true (by kernel_rfl)) (by unfold Func.isWrapper; first | (rw [if_pos (by decide +kernel)]; kernel_rfl) | (rw [if_neg (by decide +kernel)]; exact ⟨rfl, rfl⟩))
    (fun os started H enc _ => chartLeaves_lifted os started H enc)
#print axioms chartLeaves_holds
set_option maxRecDepth 100000 in
theorem chartSigns_lifted (os : Os) (started : os.Started) (H : Type) (enc : TypeId × Value → H) :
    ReturnsInHanded {} Try.checked os 6 .any (Rows.chartSignsSpec.pre6 enc Try.prog Try.f6 Rows.chartSignsRow.domain false) (Rows.chartSignsSpec.post enc Try.prog Try.f6 false true false false) := by
  refine returnsInHanded_of_change (C := Try.checked) own started (by kernel_rfl) Try.func6
    (ChangeSpec.witness6 (enc := enc) (C := Try.checked) false ⟨#[], #[.int .i64 0], []⟩ 8 (by kernel_rfl) (by kernel_rfl) (by kernel_rfl) (by kernel_rfl)) ?_
  intro W base args ds gs before hval hW _ _
  refine calls_true (P := Try.prog) laidOut ?_ ?_ (tb := 4) rfl Try.underlying4 rfl ?_ ?_ hval hW (fun _ h => by cases h)
  · rw [Try.params6]; simp only [List.mem_cons, List.not_mem_nil, or_false, forall_eq]
    exact ⟨by kernel_rfl, by decide +kernel⟩
  · rw [Try.params6]; simp only [List.mem_cons, List.not_mem_nil, or_false, forall_eq]
    kernel_rfl
  · rw [Try.params6]
    intro ds hd
    match ds, hd with
    | [d1], _ => rfl
  · rw [Try.params6]; exact pf6
theorem chartSigns_holds : Rows.ChartSignsSaid :=
  OpenClaim.holds_of_wide 6 Try.f6 rfl rfl rfl rfl rfl rfl rfl ⟨rfl, rfl, rfl, rfl, rfl⟩ rfl rfl rfl rfl rfl (by kernel_rfl) Try.func6 (by kernel_rfl)
    (of_decide_eq_true (by kernel_rfl)) (by unfold Func.isWrapper; first | (rw [if_pos (by decide +kernel)]; kernel_rfl) | (rw [if_neg (by decide +kernel)]; exact ⟨rfl, rfl⟩))
    (fun os started H enc _ => chartSigns_lifted os started H enc)
#print axioms chartSigns_holds
end Go.Proofs.Ytdaclkakglmfeaa
