/-
  The law on the row of all roots and on rows of several roots answers true for every input, and its arguments read as they did.
-/
import Derived.Test.YtmhbkofbbkogeaaGreatRows
import Derived.Test.YtmhbkofbbkogeaaGreatChecked
import Derived.Test.YtmhbkofbbkogeaaGreatLaw2
import Derived.Test.YtmhbkofbbkogeaaGreatVmS
import Derived.ProofKit
namespace Go.Proofs.YtmhbkofbbkogeaaGreat
open Go.ChangeShapes Go.WideShapes Go.ChangeAt Go.RowKit Go.VM

theorem books_okBk {b : Books} (h : b.ok) : okBk b := fun p hp => by
  have := h.2.2.2.2.1.2 p hp
  obtain ⟨_, _, _, _, _, _, _, _, _, ⟨_, hf⟩, ⟨_, hr⟩⟩ := this
  exact ⟨fun f h => ⟨(hf f h).2.2.1.2.2.2.2, (hf f h).2.2.2.2.2.2.2⟩, fun f h => (hr f h).2.2.2.2.2.2⟩
set_option maxRecDepth 100000 in
theorem arg33 {ys : List V} (h : Fit Tryz.prog 310 33 ys) : ∃ b : Books, ys = b.cells ∧ b.ok := fitT33 (n := 5) h
set_option maxRecDepth 100000 in
theorem arg36 {ys : List V} (h : Fit Tryz.prog 310 36 ys) : ∃ r : Row, ys = r.cells ∧ r.ok := fitT36 (n := 307) h
set_option maxRecDepth 100000 in
theorem arg3 {ys : List V} (h : Fit Tryz.prog 310 3 ys) : ∃ n : Int, ys = [.i .i64 n] ∧ I64 n := fit_i64 Tryz.underlying3 (n := 309) h
set_option maxRecDepth 100000 in
theorem pf3x (xs : List V) (h : FitAllN Tryz.prog 310 [33, 36, 3] xs) : PF Tryz.prog 3 xs (.b true) := by
  obtain ⟨y1, r1, rfl, h1, y2, r2, rfl, h2, y3, r3, rfl, h3, rfl⟩ := h
  obtain ⟨b, rfl, hb⟩ := arg33 h1
  obtain ⟨r, rfl, _⟩ := arg36 h2
  obtain ⟨n, rfl, _⟩ := arg3 h3
  rw [pack33, pack36, pack3]
  exact pf3 b r n (books_okBk hb) (fun g hg => (hb.2.2.1.2 g hg).2.2.2) hb.2.2.1.1
theorem own : ownKnob Tryz.prog.godebug = none := by kernel_rfl
theorem laidOut : laidOutB Tryz.prog = true := by kernel_rfl
set_option maxRecDepth 100000 in
theorem reportBalances_lifted (os : Os) (started : os.Started) (H : Type) (enc : TypeId × Value → H) :
    ReturnsInHanded {} Tryz.checked os 3 .any (Rows.reportBalancesSpec.pre6 enc Tryz.prog Tryz.f3 Rows.reportBalancesRow.domain false) (Rows.reportBalancesSpec.post enc Tryz.prog Tryz.f3 false true false false) := by
  refine returnsInHanded_of_change (C := Tryz.checked) own started (by kernel_rfl) Tryz.func3
    (ChangeSpec.witness6 (enc := enc) (C := Tryz.checked) false ⟨#[], #[.agg #[.slice none 0 0, .slice none 0 0, .slice none 0 0, .int .i64 0, .int .i64 0, .int .i64 0, .int .i64 0, .int .i64 0, .int .i64 0, .int .i64 0, .int .i64 0, .int .i64 0, .int .i64 0, .int .i64 0, .int .i64 0, .int .i64 0, .int .i64 0, .slice none 0 0, .slice none 0 0, .slice none 0 0, .slice none 0 0, .slice none 0 0], .agg #[.string ⟨#[]⟩, .int .i64 0, .slice none 0 0], .int .i64 0], []⟩ 8 (by kernel_rfl) (by kernel_rfl) (by kernel_rfl) (by kernel_rfl)) ?_
  intro W base args ds gs before hval hW _ _
  refine calls_trueRN 310 (P := Tryz.prog) laidOut ?_ ?_ (tb := 4) rfl Tryz.underlying4 rfl ?_ ?_ hval hW (fun _ h => by cases h)
  · rw [Tryz.params3]; simp only [List.mem_cons, List.not_mem_nil, or_false, forall_eq_or_imp, forall_eq]
    exact ⟨⟨by kernel_rfl, by decide +kernel⟩, ⟨by kernel_rfl, by decide +kernel⟩, ⟨by kernel_rfl, by decide +kernel⟩⟩
  · rw [Tryz.params3]; simp only [List.mem_cons, List.not_mem_nil, or_false, forall_eq_or_imp, forall_eq]
    exact ⟨by kernel_rfl, by kernel_rfl, by kernel_rfl⟩
  · rw [Tryz.params3]
    intro ds hd
    match ds, hd with
    | [d1, d2, d3], _ => rfl
  · rw [Tryz.params3]; exact pf3x
theorem reportBalances_holds : Rows.ReportBalancesSaid :=
  OpenClaim.holds_of_wide 3 Tryz.f3 rfl rfl rfl rfl rfl rfl rfl ⟨rfl, rfl, rfl, rfl, rfl⟩ rfl rfl rfl rfl rfl (by kernel_rfl) Tryz.func3 (by kernel_rfl)
    (of_decide_eq_true (by kernel_rfl)) (by unfold Func.isWrapper; first | (rw [if_pos (by decide +kernel)]; kernel_rfl) | (rw [if_neg (by decide +kernel)]; exact ⟨rfl, rfl⟩))
    (fun os started H enc _ => reportBalances_lifted os started H enc)
#print axioms reportBalances_holds
end Go.Proofs.YtmhbkofbbkogeaaGreat
