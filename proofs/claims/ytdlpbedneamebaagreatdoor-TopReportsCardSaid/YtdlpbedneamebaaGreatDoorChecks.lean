/-
  The law that a report over all leaves of the chart adds up to nothing, and that each of its amounts is that of the entries behind it, answers true for every input, and its arguments read as they did; the package variables that it reads are those that the program's text lays.
-/
import Derived.Test.YtdlpbedneamebaaGreatDoorTie
import Derived.Test.YtdlpbedneamebaaGreatDoorCards
import Derived.Test.YtdlpbedneamebaaGreatDoorLaw
import Derived.Test.YtdlpbedneamebaaGreatDoorFacts
import Derived.Test.YtdlpbedneamebaaGreatDoorVmQ
import Derived.ProofKit
import Derived.LaidMore
import Derived.Stop.Joined
import Derived.Lib.LaidTab
namespace Go.Proofs.YtdlpbedneamebaaGreatDoor
open Go.ChangeShapes Go.WideShapes Go.ChangeAt Go.RowKit Go.VM

theorem books_okBk {b : Books} (h : b.ok) : okBk b := fun p hp => by
  have := h.2.2.2.2.1.2 p hp
  obtain ⟨_, _, _, _, _, _, _, _, _, ⟨_, hf⟩, ⟨_, hr⟩⟩ := this
  exact ⟨fun f h => ⟨(hf f h).2.2.1.2.2.2.2, (hf f h).2.2.2.2.2.2.2⟩, fun f h => (hr f h).2.2.2.2.2.2⟩
set_option maxRecDepth 100000 in
theorem arg33 {ys : List V} (h : Fit Tryz.prog 310 33 ys) : ∃ b : Books, ys = b.cells ∧ b.ok := fitT33 (n := 5) h
set_option maxRecDepth 100000 in
theorem arg3 {ys : List V} (h : Fit Tryz.prog 310 3 ys) : ∃ n : Int, ys = [.i .i64 n] ∧ I64 n := fit_i64 Tryz.underlying3 (n := 309) h
set_option maxRecDepth 100000 in
theorem pf3x (xs : List V) (h : FitAllN Tryz.prog 310 [33, 3] xs) : PF Tryz.prog 3 xs (.b true) := by
  obtain ⟨y1, r1, rfl, h1, y2, r2, rfl, h2, rfl⟩ := h
  obtain ⟨b, rfl, hb⟩ := arg33 h1
  obtain ⟨n, rfl, _⟩ := arg3 h2
  rw [pack33, pack3]
  exact (soundB.2 3 _ _ (e3 b n (books_okBk hb) (fun g hg => (hb.2.2.1.2 g hg).2.2.2))).2
theorem own : ownKnob Tryz.prog.godebug = none := by kernel_rfl
theorem laidOut : laidOutB Tryz.prog = true := by kernel_rfl
abbrev laidL : List (String × DataW Unit) := [("math/bits.deBruijn32tab", Rows.laid_math_bits_deBruijn32tab), ("math/bits.deBruijn64tab", Rows.laid_math_bits_deBruijn64tab), ("corebank/rounding.steps", Rows.laid_corebank_rounding_steps), ("internal/strconv.uint64pow10", Rows.laid_internal_strconv_uint64pow10), ("strconv.ErrRange", Rows.laid_strconv_ErrRange), ("strconv.ErrSyntax", Rows.laid_strconv_ErrSyntax), ("unicode.White_Space", Rows.laid_unicode_White_Space), ("strings.asciiSpace", Rows.laid_strings_asciiSpace)]
theorem door_met (os : Os) (args : Array Value) : laidMetH Tryz.prog laidL ((World.doorLaid Tryz.prog 400 os).forCall (fun _ _ => 0) ⟨#[], args, []⟩).memory :=
  laidMetH_of_parts3 (fuel := 8) (laidMet_of_run' 8 (by kernel_rfl) (by kernel_rfl)) (by kernel_rfl) (by kernel_rfl)
theorem gok {W : World} (h : laidMetH Tryz.prog laidL W) : GOK (All W) W := by
  have h1 : laidMetH Tryz.prog [("internal/strconv.uint64pow10", Rows.laid_internal_strconv_uint64pow10)] W := by
    have h2 := h.filter (fun x => x.1 == "internal/strconv.uint64pow10")
    have e : (laidL.filter fun x => x.1 == "internal/strconv.uint64pow10") = [("internal/strconv.uint64pow10", Rows.laid_internal_strconv_uint64pow10)] := by kernel_rfl
    rw [e] at h2
    exact h2
  rw [MakeChecks.laidMetH_plain _ _ _ (by kernel_rfl)] at h1
  have hT : Lib.TabIs Tryz.prog W "internal/strconv.uint64pow10" .u64 Lib.pow10Tab := Lib.tabIs_of_head (t := 334) (e := 57) (n := 20) (rest := []) glob0 (by kernel_rfl) (by kernel_rfl) (by kernel_rfl) (by kernel_rfl) (by kernel_rfl) h1
  intro p hp
  simp only [Glob.gs, List.mem_singleton] at hp
  subst hp
  refine ⟨?_, ?_, ?_⟩
  · have := ints_glob (W := W) (g := 0) (k := .u64) (zs := Lib.pow10Tab) (by rw [Lib.pow10Tab_length]; omega) fun i hi => hT.cell glob0 i hi
    have e : pow10 = Lib.pow10Tab.map fun z => V.i .u64 z := by kernel_rfl
    rw [e]
    exact this
  · show 0 < W.heap.size
    have := hT.cell glob0 0 (by rw [Lib.pow10Tab_length]; omega)
    unfold World.cell? at this
    cases hh : W.heap[0]? with
    | none => simp [hh] at this
    | some o => exact (Array.getElem?_eq_some_iff.1 hh).1
  · show W.cell? ⟨0, 20, none⟩ = none
    rw [World.var?_cell glob0 hT 20]
    simp [Lib.pow10Tab]
set_option maxRecDepth 100000 in
theorem topReports_lifted (os : Os) (started : os.Started) (H : Type) (enc : TypeId × Value → H) :
    ReturnsInHanded {} Tryz.checked os 3 .any (fun w args => (Rows.topReportsSpec.pre enc Tryz.prog Tryz.f3 [] false w args ∧ laidMetH Tryz.prog laidL w) ∧ sizedMet enc Tryz.prog Tryz.f3 (OpenSpec.ofChange Rows.topReportsSpec) false w args)
      (Rows.topReportsSpec.post enc Tryz.prog Tryz.f3 false true false false) := by
  refine returnsInHanded_of_change_and (C := Tryz.checked) (X := fun w _ => laidMetH Tryz.prog laidL w) (fun _ _ _ hh h => h.of_heap hh) own started (by kernel_rfl) Tryz.func3
    (ChangeSpec.witness_shaped (enc := enc) (C := Tryz.checked) (os := os) (X := fun w _ => laidMetH Tryz.prog laidL w) false (World.doorLaid Tryz.prog 400 os) #[.agg #[.slice none 0 0, .slice none 0 0, .slice none 0 0, .int .i64 0, .int .i64 0, .int .i64 0, .int .i64 0, .int .i64 0, .int .i64 0, .int .i64 0, .int .i64 0, .int .i64 0, .int .i64 0, .int .i64 0, .int .i64 0, .int .i64 0, .int .i64 0, .slice none 0 0, .slice none 0 0, .slice none 0 0, .slice none 0 0, .slice none 0 0], .int .i64 0] 8 rfl (World.shaped_of_RefB (by kernel_rfl) (by kernel_rfl)) (by kernel_rfl) (by kernel_rfl) (by kernel_rfl) (door_met os _)) ?_
  intro W base args ds gs before hval hW _ _ hL _
  refine calls_trueRN 310 (P := Tryz.prog) laidOut ?_ ?_ (tb := 4) rfl Tryz.underlying4 rfl ?_ ?_ hval hW (gok hL)
  · rw [Tryz.params3]; simp only [List.mem_cons, List.not_mem_nil, or_false, forall_eq_or_imp, forall_eq]
    exact ⟨⟨by kernel_rfl, by decide +kernel⟩, ⟨by kernel_rfl, by decide +kernel⟩⟩
  · rw [Tryz.params3]; simp only [List.mem_cons, List.not_mem_nil, or_false, forall_eq_or_imp, forall_eq]
    exact ⟨by kernel_rfl, by kernel_rfl⟩
  · rw [Tryz.params3]
    intro ds hd
    match ds, hd with
    | [d1, d2], _ => rfl
  · rw [Tryz.params3]; exact pf3x
theorem topReports_holds : Rows.TopReportsSaid :=
  OpenClaim.holds_of_wide 3 Tryz.f3 rfl rfl rfl rfl rfl rfl rfl ⟨rfl, rfl, rfl, rfl, rfl⟩ rfl rfl rfl rfl rfl (by kernel_rfl) Tryz.func3 facts
    (of_decide_eq_true (by kernel_rfl)) (by unfold Func.isWrapper; first | (rw [if_pos (by decide +kernel)]; kernel_rfl) | (rw [if_neg (by decide +kernel)]; exact ⟨rfl, rfl⟩))
    (fun os started H enc _ => topReports_lifted os started H enc)
end Go.Proofs.YtdlpbedneamebaaGreatDoor
