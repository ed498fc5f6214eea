/-
  The four laws on write-offs answer true for every input, and their arguments read as they did; the package variable that they read is the one that the program's text lays.
-/
import Derived.Test.YtjbnkdlklibomaaDoorTie
import Derived.Test.YtjbnkdlklibomaaDoorCards
import Derived.Test.YtjbnkdlklibomaaDoorLaws4
import Derived.ProofKit
import Derived.LaidMore
import Derived.Stop.Joined
import Derived.Lib.LaidTab
set_option linter.all false
namespace Go.Proofs.YtjbnkdlklibomaaDoor
open Go.ChangeShapes Go.WideShapes Go.ChangeAt Go.RowKit Go.VM

theorem sound : SoundO Tryd.prog O := by
  refine den_sound (fun f fc h => codes_ok _ (tabOf_mem h)) (fun f xs y h => ?_)
  unfold ext at h
  split at h
  · refine cloneL_PF (fun z hz => ?_) h
    exact cloneF_PF (t := 24) (tb := 4) (p1 := cp1) (p2 := #[]) (p3 := #[]) (p4 := cp4) (p5 := cp5) (zc := [.i .i64 0, .i .i64 0, .i .i64 0, .i .i64 0]) Tryd.func35 (by kernel_rfl) (by kernel_rfl) (by kernel_rfl) (by kernel_rfl) (by kernel_rfl) (by kernel_rfl) (by kernel_rfl) (by kernel_rfl) (by decide) xs z hz
  · refine cloneL_PF (fun z hz => ?_) h
    exact cloneF_PF (t := 25) (tb := 4) (p1 := cp1) (p2 := #[]) (p3 := #[]) (p4 := cp4) (p5 := cp5) (zc := .i .i64 0 :: .i .i64 0 :: noTerms.cells) Tryd.func36 (by kernel_rfl) (by kernel_rfl) (by kernel_rfl) (by kernel_rfl) (by kernel_rfl) (by kernel_rfl) (by kernel_rfl) (by kernel_rfl) (by decide) xs z hz
  · cases h
theorem days_ok {l : Loan} (h : l.ok) : DayOk l.dues := fun d hd => by
  obtain ⟨_, _, _, _, _, _, _, _, _, _, _, _, ⟨_, h⟩, _⟩ := h
  exact (h d hd).2.1.2
theorem pf3 (xs : List V) (h : FitAll Tryd.prog [27, 3] xs) : PF Tryd.prog 3 xs (.b true) := by
  obtain ⟨y1, r1, rfl, h1, y2, r2, rfl, h2, rfl⟩ := h
  obtain ⟨l, rfl, hl⟩ := fitT27 h1
  obtain ⟨d, rfl, _⟩ := fit_i64 Tryd.underlying3 h2
  rw [pack27, pack3]
  exact (sound 3 _ _ (e3 l d (days_ok hl))).2
theorem pf4 (xs : List V) (h : FitAll Tryd.prog [27, 3, 3] xs) : PF Tryd.prog 4 xs (.b true) := by
  obtain ⟨y1, r1, rfl, h1, y2, r2, rfl, h2, y3, r3, rfl, h3, rfl⟩ := h
  obtain ⟨l, rfl, hl⟩ := fitT27 h1
  obtain ⟨n, rfl, _⟩ := fit_i64 Tryd.underlying3 h2
  obtain ⟨d, rfl, _⟩ := fit_i64 Tryd.underlying3 h3
  rw [pack27, pack3, pack3]
  exact (sound 4 _ _ (e4 l n d)).2
theorem pf5 (xs : List V) (h : FitAll Tryd.prog [38] xs) : PF Tryd.prog 5 xs (.b true) := by
  obtain ⟨y1, r1, rfl, h1, rfl⟩ := h
  obtain ⟨l, rfl, _, hl⟩ := fitS38 h1
  rw [pack38]
  exact (sound 5 _ _ (e5 l fun x hx => days_ok (hl x hx))).2
theorem pf6 (xs : List V) (h : FitAll Tryd.prog [27, 3, 3] xs) : PF Tryd.prog 6 xs (.b true) := by
  obtain ⟨y1, r1, rfl, h1, y2, r2, rfl, h2, y3, r3, rfl, h3, rfl⟩ := h
  obtain ⟨l, rfl, hl⟩ := fitT27 h1
  obtain ⟨d, rfl, _⟩ := fit_i64 Tryd.underlying3 h2
  obtain ⟨n, rfl, _⟩ := fit_i64 Tryd.underlying3 h3
  rw [pack27, pack3, pack3]
  exact (sound 6 _ _ (e6 l d n (days_ok hl))).2
/-- From the condition on the package variable to what the walks ask. -/
theorem gok {W : World} (h : laidMetH Tryd.prog [("corebank/arrears.classes", Rows.laid_corebank_arrears_classes)] W) : GOK (All W) W := by
  rw [MakeChecks.laidMetH_plain _ _ _ (by kernel_rfl)] at h
  have hg : Tryd.prog.globalNamed "corebank/arrears.classes" = some 0 := by kernel_rfl
  have hT : Lib.TabIs Tryd.prog W "corebank/arrears.classes" .i64 [0, 30, 60, 90] := Lib.tabIs_of_head (t := 55) (e := 3) (n := 4) (rest := []) hg (by kernel_rfl) (by kernel_rfl) (by kernel_rfl) (by kernel_rfl) (by kernel_rfl) h
  intro p hp
  simp only [Glob.gs, glob, List.mem_singleton] at hp
  subst hp
  exact ints_glob (zs := [0, 30, 60, 90]) (by decide) fun i hi => hT.cell hg i hi
theorem own : ownKnob Tryd.prog.godebug = none := by kernel_rfl
theorem laidOut : laidOutB Tryd.prog = true := by kernel_rfl
/-- The package variables' condition, of whatever row. -/
abbrev laidL : List (String × DataW Unit) := [("corebank/arrears.classes", Rows.laid_corebank_arrears_classes)]
/-- The world in which they were laid meets it. -/
theorem door_met (os : Os) (args : Array Value) : laidMetH Tryd.prog laidL ((World.doorLaid Tryd.prog 400 os).forCall (fun _ _ => 0) ⟨#[], args, []⟩).memory :=
  laidMetH_of_parts3 (fuel := 8) (laidMet_of_run' 8 (by kernel_rfl) (by kernel_rfl)) (by kernel_rfl) (by kernel_rfl)
set_option maxRecDepth 100000 in
theorem writeoffWrites_lifted (os : Os) (started : os.Started) (H : Type) (enc : TypeId × Value → H) :
    ReturnsInHanded {} Tryd.checked os 3 .any (fun w args => (Rows.writeoffWritesSpec.pre enc Tryd.prog Tryd.f3 [] false w args ∧ laidMetH Tryd.prog laidL w) ∧ sizedMet enc Tryd.prog Tryd.f3 (OpenSpec.ofChange Rows.writeoffWritesSpec) false w args)
      (Rows.writeoffWritesSpec.post enc Tryd.prog Tryd.f3 false true false false) := by
  refine returnsInHanded_of_change_and (C := Tryd.checked) (X := fun w _ => laidMetH Tryd.prog laidL w) (fun _ _ _ hh h => h.of_heap hh) own started (by kernel_rfl) Tryd.func3
    (ChangeSpec.witness_shaped (enc := enc) (C := Tryd.checked) (os := os) (X := fun w _ => laidMetH Tryd.prog laidL w) false (World.doorLaid Tryd.prog 400 os) #[.agg #[.int .i64 0, .int .i64 0, .int .i64 0, .int .i64 0, .int .i64 0, .int .i64 0, .int .i64 0, .int .i64 0, .int .i64 0, .int .i64 0, .int .i64 0, .int .i64 0, .int .i64 0, .int .i64 0, .int .i64 0, .int .i64 0, .int .i64 0, .int .i64 0, .int .i64 0, .int .i64 0, .int .i64 0, .string ⟨#[]⟩, .string ⟨#[]⟩, .slice none 0 0, .slice none 0 0], .int .i64 0] 8 rfl (World.shaped_of_RefB (by kernel_rfl) (by kernel_rfl)) (by kernel_rfl) (by kernel_rfl) (by kernel_rfl) (door_met os _)) ?_
  intro W base args ds gs before hval hW _ _ hL _
  refine calls_true (P := Tryd.prog) laidOut ?_ ?_ (tb := 4) rfl Tryd.underlying4 rfl ?_ ?_ hval hW (gok hL)
  · rw [Tryd.params3]; simp only [List.mem_cons, List.not_mem_nil, or_false, forall_eq_or_imp, forall_eq]
    exact ⟨⟨by kernel_rfl, by decide +kernel⟩, ⟨by kernel_rfl, by decide +kernel⟩⟩
  · rw [Tryd.params3]; simp only [List.mem_cons, List.not_mem_nil, or_false, forall_eq_or_imp, forall_eq]
    exact ⟨by kernel_rfl, by kernel_rfl⟩
  · rw [Tryd.params3]
    intro ds hd
    match ds, hd with
    | [d1, d2], _ => rfl
  · rw [Tryd.params3]; exact pf3
theorem writeoffWrites_holds : Rows.WriteoffWritesSaid :=
  OpenClaim.holds_of_wide 3 Tryd.f3 rfl rfl rfl rfl rfl rfl rfl ⟨rfl, rfl, rfl, rfl, rfl⟩ rfl rfl rfl rfl rfl (by kernel_rfl) Tryd.func3 (by kernel_rfl)
    (of_decide_eq_true (by kernel_rfl)) (by unfold Func.isWrapper; first | (rw [if_pos (by decide +kernel)]; kernel_rfl) | (rw [if_neg (by decide +kernel)]; exact ⟨rfl, rfl⟩))
    (fun os started H enc _ => writeoffWrites_lifted os started H enc)
theorem writeoffWrites_card : Rows.WriteoffWritesCardSaid :=
  Claim7.holds_tied_plain_at .later [] [.data] true (true, "5ac992651e20d218aaa679354ddb80b970a6a9ecb58ca28aa3fa6c589fbd1dcf") false
    writeoffWrites_holds (fun _ h => by cases h) (by kernel_rfl) (fun _ h => by cases h) writeoffWrites_row_tie rfl ⟨rfl, rfl⟩ (by kernel_rfl) rfl
    (fun f fn hf hfn => by
      obtain rfl : f = 3 := Option.some.inj ((show Tryd.prog.funcNamed "corebank/corebanklaw39.WriteoffWrites" = some 3 by kernel_rfl).symm.trans hf) |>.symm
      obtain rfl : fn = Tryd.f3 := (Option.some.inj (Tryd.func3.symm.trans hfn)).symm
      exact ⟨by kernel_rfl, fun j t ht => by
        have hall : (Tryd.f3.params.all fun u => !Tryd.prog.wantsStandIn u) = true := by kernel_rfl
        have := (Array.all_eq_true.1 hall) j (by simpa using (Array.getElem?_eq_some_iff.1 ht).1)
        rw [(Array.getElem?_eq_some_iff.1 ht).2] at this
        exact (show Tryd.prog.wantsStandIn t = false by simpa using this)⟩)
    (by kernel_rfl)
#print axioms writeoffWrites_card
set_option maxRecDepth 100000 in
theorem writeoffRecovers_lifted (os : Os) (started : os.Started) (H : Type) (enc : TypeId × Value → H) :
    ReturnsInHanded {} Tryd.checked os 4 .any (fun w args => (Rows.writeoffRecoversSpec.pre enc Tryd.prog Tryd.f4 [] false w args ∧ laidMetH Tryd.prog laidL w) ∧ sizedMet enc Tryd.prog Tryd.f4 (OpenSpec.ofChange Rows.writeoffRecoversSpec) false w args)
      (Rows.writeoffRecoversSpec.post enc Tryd.prog Tryd.f4 false true false false) := by
  refine returnsInHanded_of_change_and (C := Tryd.checked) (X := fun w _ => laidMetH Tryd.prog laidL w) (fun _ _ _ hh h => h.of_heap hh) own started (by kernel_rfl) Tryd.func4
    (ChangeSpec.witness_shaped (enc := enc) (C := Tryd.checked) (os := os) (X := fun w _ => laidMetH Tryd.prog laidL w) false (World.doorLaid Tryd.prog 400 os) #[.agg #[.int .i64 0, .int .i64 0, .int .i64 0, .int .i64 0, .int .i64 0, .int .i64 0, .int .i64 0, .int .i64 0, .int .i64 0, .int .i64 0, .int .i64 0, .int .i64 0, .int .i64 0, .int .i64 0, .int .i64 0, .int .i64 0, .int .i64 0, .int .i64 0, .int .i64 0, .int .i64 0, .int .i64 0, .string ⟨#[]⟩, .string ⟨#[]⟩, .slice none 0 0, .slice none 0 0], .int .i64 0, .int .i64 0] 8 rfl (World.shaped_of_RefB (by kernel_rfl) (by kernel_rfl)) (by kernel_rfl) (by kernel_rfl) (by kernel_rfl) (door_met os _)) ?_
  intro W base args ds gs before hval hW _ _ hL _
  refine calls_true (P := Tryd.prog) laidOut ?_ ?_ (tb := 4) rfl Tryd.underlying4 rfl ?_ ?_ hval hW (gok hL)
  · rw [Tryd.params4]; simp only [List.mem_cons, List.not_mem_nil, or_false, forall_eq_or_imp, forall_eq]
    exact ⟨⟨by kernel_rfl, by decide +kernel⟩, ⟨by kernel_rfl, by decide +kernel⟩, ⟨by kernel_rfl, by decide +kernel⟩⟩
  · rw [Tryd.params4]; simp only [List.mem_cons, List.not_mem_nil, or_false, forall_eq_or_imp, forall_eq]
    exact ⟨by kernel_rfl, by kernel_rfl, by kernel_rfl⟩
  · rw [Tryd.params4]
    intro ds hd
    match ds, hd with
    | [d1, d2, d3], _ => rfl
  · rw [Tryd.params4]; exact pf4
theorem writeoffRecovers_holds : Rows.WriteoffRecoversSaid :=
  OpenClaim.holds_of_wide 4 Tryd.f4 rfl rfl rfl rfl rfl rfl rfl ⟨rfl, rfl, rfl, rfl, rfl⟩ rfl rfl rfl rfl rfl (by kernel_rfl) Tryd.func4 (by kernel_rfl)
    (of_decide_eq_true (by kernel_rfl)) (by unfold Func.isWrapper; first | (rw [if_pos (by decide +kernel)]; kernel_rfl) | (rw [if_neg (by decide +kernel)]; exact ⟨rfl, rfl⟩))
    (fun os started H enc _ => writeoffRecovers_lifted os started H enc)
theorem writeoffRecovers_card : Rows.WriteoffRecoversCardSaid :=
  Claim7.holds_tied_plain_at .later [] [.data] true (true, "5ac992651e20d218aaa679354ddb80b970a6a9ecb58ca28aa3fa6c589fbd1dcf") false
    writeoffRecovers_holds (fun _ h => by cases h) (by kernel_rfl) (fun _ h => by cases h) writeoffRecovers_row_tie rfl ⟨rfl, rfl⟩ (by kernel_rfl) rfl
    (fun f fn hf hfn => by
      obtain rfl : f = 4 := Option.some.inj ((show Tryd.prog.funcNamed "corebank/corebanklaw39.WriteoffRecovers" = some 4 by kernel_rfl).symm.trans hf) |>.symm
      obtain rfl : fn = Tryd.f4 := (Option.some.inj (Tryd.func4.symm.trans hfn)).symm
      exact ⟨by kernel_rfl, fun j t ht => by
        have hall : (Tryd.f4.params.all fun u => !Tryd.prog.wantsStandIn u) = true := by kernel_rfl
        have := (Array.all_eq_true.1 hall) j (by simpa using (Array.getElem?_eq_some_iff.1 ht).1)
        rw [(Array.getElem?_eq_some_iff.1 ht).2] at this
        exact (show Tryd.prog.wantsStandIn t = false by simpa using this)⟩)
    (by kernel_rfl)
#print axioms writeoffRecovers_card
set_option maxRecDepth 100000 in
theorem writeoffExposure_lifted (os : Os) (started : os.Started) (H : Type) (enc : TypeId × Value → H) :
    ReturnsInHanded {} Tryd.checked os 5 .any (fun w args => (Rows.writeoffExposureSpec.pre enc Tryd.prog Tryd.f5 [] false w args ∧ laidMetH Tryd.prog laidL w) ∧ sizedMet enc Tryd.prog Tryd.f5 (OpenSpec.ofChange Rows.writeoffExposureSpec) false w args)
      (Rows.writeoffExposureSpec.post enc Tryd.prog Tryd.f5 false true false false) := by
  refine returnsInHanded_of_change_and (C := Tryd.checked) (X := fun w _ => laidMetH Tryd.prog laidL w) (fun _ _ _ hh h => h.of_heap hh) own started (by kernel_rfl) Tryd.func5
    (ChangeSpec.witness_shaped (enc := enc) (C := Tryd.checked) (os := os) (X := fun w _ => laidMetH Tryd.prog laidL w) false (World.doorLaid Tryd.prog 400 os) #[.slice none 0 0] 8 rfl (World.shaped_of_RefB (by kernel_rfl) (by kernel_rfl)) (by kernel_rfl) (by kernel_rfl) (by kernel_rfl) (door_met os _)) ?_
  intro W base args ds gs before hval hW _ _ hL _
  refine calls_true (P := Tryd.prog) laidOut ?_ ?_ (tb := 4) rfl Tryd.underlying4 rfl ?_ ?_ hval hW (gok hL)
  · rw [Tryd.params5]; simp only [List.mem_cons, List.not_mem_nil, or_false, forall_eq]
    exact ⟨by kernel_rfl, by decide +kernel⟩
  · rw [Tryd.params5]; simp only [List.mem_cons, List.not_mem_nil, or_false, forall_eq]
    kernel_rfl
  · rw [Tryd.params5]
    intro ds hd
    match ds, hd with
    | [d1], _ => rfl
  · rw [Tryd.params5]; exact pf5
theorem writeoffExposure_holds : Rows.WriteoffExposureSaid :=
  OpenClaim.holds_of_wide 5 Tryd.f5 rfl rfl rfl rfl rfl rfl rfl ⟨rfl, rfl, rfl, rfl, rfl⟩ rfl rfl rfl rfl rfl (by kernel_rfl) Tryd.func5 (by kernel_rfl)
    (of_decide_eq_true (by kernel_rfl)) (by unfold Func.isWrapper; first | (rw [if_pos (by decide +kernel)]; kernel_rfl) | (rw [if_neg (by decide +kernel)]; exact ⟨rfl, rfl⟩))
    (fun os started H enc _ => writeoffExposure_lifted os started H enc)
theorem writeoffExposure_card : Rows.WriteoffExposureCardSaid :=
  Claim7.holds_tied_plain_at .later [] [.data] true (true, "5ac992651e20d218aaa679354ddb80b970a6a9ecb58ca28aa3fa6c589fbd1dcf") false
    writeoffExposure_holds (fun _ h => by cases h) (by kernel_rfl) (fun _ h => by cases h) writeoffExposure_row_tie rfl ⟨rfl, rfl⟩ (by kernel_rfl) rfl
    (fun f fn hf hfn => by
      obtain rfl : f = 5 := Option.some.inj ((show Tryd.prog.funcNamed "corebank/corebanklaw39.WriteoffExposure" = some 5 by kernel_rfl).symm.trans hf) |>.symm
      obtain rfl : fn = Tryd.f5 := (Option.some.inj (Tryd.func5.symm.trans hfn)).symm
      exact ⟨by kernel_rfl, fun j t ht => by
        have hall : (Tryd.f5.params.all fun u => !Tryd.prog.wantsStandIn u) = true := by kernel_rfl
        have := (Array.all_eq_true.1 hall) j (by simpa using (Array.getElem?_eq_some_iff.1 ht).1)
        rw [(Array.getElem?_eq_some_iff.1 ht).2] at this
        exact (show Tryd.prog.wantsStandIn t = false by simpa using this)⟩)
    (by kernel_rfl)
#print axioms writeoffExposure_card
set_option maxRecDepth 100000 in
theorem writeoffBalances_lifted (os : Os) (started : os.Started) (H : Type) (enc : TypeId × Value → H) :
    ReturnsInHanded {} Tryd.checked os 6 .any (fun w args => (Rows.writeoffBalancesSpec.pre enc Tryd.prog Tryd.f6 [] false w args ∧ laidMetH Tryd.prog laidL w) ∧ sizedMet enc Tryd.prog Tryd.f6 (OpenSpec.ofChange Rows.writeoffBalancesSpec) false w args)
      (Rows.writeoffBalancesSpec.post enc Tryd.prog Tryd.f6 false true false false) := by
  refine returnsInHanded_of_change_and (C := Tryd.checked) (X := fun w _ => laidMetH Tryd.prog laidL w) (fun _ _ _ hh h => h.of_heap hh) own started (by kernel_rfl) Tryd.func6
    (ChangeSpec.witness_shaped (enc := enc) (C := Tryd.checked) (os := os) (X := fun w _ => laidMetH Tryd.prog laidL w) false (World.doorLaid Tryd.prog 400 os) #[.agg #[.int .i64 0, .int .i64 0, .int .i64 0, .int .i64 0, .int .i64 0, .int .i64 0, .int .i64 0, .int .i64 0, .int .i64 0, .int .i64 0, .int .i64 0, .int .i64 0, .int .i64 0, .int .i64 0, .int .i64 0, .int .i64 0, .int .i64 0, .int .i64 0, .int .i64 0, .int .i64 0, .int .i64 0, .string ⟨#[]⟩, .string ⟨#[]⟩, .slice none 0 0, .slice none 0 0], .int .i64 0, .int .i64 0] 8 rfl (World.shaped_of_RefB (by kernel_rfl) (by kernel_rfl)) (by kernel_rfl) (by kernel_rfl) (by kernel_rfl) (door_met os _)) ?_
  intro W base args ds gs before hval hW _ _ hL _
  refine calls_true (P := Tryd.prog) laidOut ?_ ?_ (tb := 4) rfl Tryd.underlying4 rfl ?_ ?_ hval hW (gok hL)
  · rw [Tryd.params6]; simp only [List.mem_cons, List.not_mem_nil, or_false, forall_eq_or_imp, forall_eq]
    exact ⟨⟨by kernel_rfl, by decide +kernel⟩, ⟨by kernel_rfl, by decide +kernel⟩, ⟨by kernel_rfl, by decide +kernel⟩⟩
  · rw [Tryd.params6]; simp only [List.mem_cons, List.not_mem_nil, or_false, forall_eq_or_imp, forall_eq]
    exact ⟨by kernel_rfl, by kernel_rfl, by kernel_rfl⟩
  · rw [Tryd.params6]
    intro ds hd
    match ds, hd with
    | [d1, d2, d3], _ => rfl
  · rw [Tryd.params6]; exact pf6
theorem writeoffBalances_holds : Rows.WriteoffBalancesSaid :=
  OpenClaim.holds_of_wide 6 Tryd.f6 rfl rfl rfl rfl rfl rfl rfl ⟨rfl, rfl, rfl, rfl, rfl⟩ rfl rfl rfl rfl rfl (by kernel_rfl) Tryd.func6 (by kernel_rfl)
    (of_decide_eq_true (by kernel_rfl)) (by unfold Func.isWrapper; first | (rw [if_pos (by decide +kernel)]; kernel_rfl) | (rw [if_neg (by decide +kernel)]; exact ⟨rfl, rfl⟩))
    (fun os started H enc _ => writeoffBalances_lifted os started H enc)
theorem writeoffBalances_card : Rows.WriteoffBalancesCardSaid :=
  Claim7.holds_tied_plain_at .later [] [.data] true (true, "5ac992651e20d218aaa679354ddb80b970a6a9ecb58ca28aa3fa6c589fbd1dcf") false
    writeoffBalances_holds (fun _ h => by cases h) (by kernel_rfl) (fun _ h => by cases h) writeoffBalances_row_tie rfl ⟨rfl, rfl⟩ (by kernel_rfl) rfl
    (fun f fn hf hfn => by
      obtain rfl : f = 6 := Option.some.inj ((show Tryd.prog.funcNamed "corebank/corebanklaw39.WriteoffBalances" = some 6 by kernel_rfl).symm.trans hf) |>.symm
      obtain rfl : fn = Tryd.f6 := (Option.some.inj (Tryd.func6.symm.trans hfn)).symm
      exact ⟨by kernel_rfl, fun j t ht => by
        have hall : (Tryd.f6.params.all fun u => !Tryd.prog.wantsStandIn u) = true := by kernel_rfl
        have := (Array.all_eq_true.1 hall) j (by simpa using (Array.getElem?_eq_some_iff.1 ht).1)
        rw [(Array.getElem?_eq_some_iff.1 ht).2] at this
        exact (show Tryd.prog.wantsStandIn t = false by simpa using this)⟩)
    (by kernel_rfl)
#print axioms writeoffBalances_card
end Go.Proofs.YtjbnkdlklibomaaDoor
