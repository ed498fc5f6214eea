/-
  The laws on direct debits answer true for every input, and their arguments read as they did; the package variable that they read is the one that the program's text lays.
-/
import Derived.Test.YtoahbbpjhdegoaaDoorTie
import Derived.Test.YtoahbbpjhdegoaaDoorCards
import Derived.Test.YtoahbbpjhdegoaaDoorLaws3
import Derived.ProofKit
import Derived.LaidMore
import Derived.Stop.Joined
import Derived.Lib.LaidTab
namespace Go.Proofs.YtoahbbpjhdegoaaDoor
open Go.ChangeShapes Go.WideShapes Go.ChangeAt Go.RowKit Go.VM

theorem sound : SoundO Tryd.prog O := by
  refine den_sound (fun f fc h => codes_ok _ (tabOf_mem h)) (fun f xs y h => ?_)
  unfold ext at h
  split at h
  · exact cloneF_PF (t := 22) (tb := 4) (p1 := cp1) (p2 := #[]) (p3 := #[]) (p4 := cp4) (p5 := cp5) (zc := [.i .i64 0, .i .i64 0, .i .i64 0, .i .i64 0, .i .i64 0, .i .i64 0, .i .i64 0, .i .i64 0, .s []]) Tryd.func39 (by kernel_rfl) (by kernel_rfl) (by kernel_rfl) (by kernel_rfl) (by kernel_rfl) (by kernel_rfl) (by kernel_rfl) (by kernel_rfl) (by decide) xs y h
  · cases h
theorem kok_of {l : List Debit} (h : ∀ y ∈ l, y.ok) : KOk l := fun x hx => (h x hx).2.2.2.2.2.2.2.2
theorem pf3 (xs : List V) (h : FitAll Tryd.prog [22, 3] xs) : PF Tryd.prog 3 xs (.b true) := by
  obtain ⟨y1, r1, rfl, h1, y2, r2, rfl, h2, rfl⟩ := h
  obtain ⟨l, rfl, _, hl⟩ := fitS22 h1
  obtain ⟨d, rfl, _⟩ := fit_i64 Tryd.underlying3 h2
  rw [pack22, pack3]
  exact (sound 3 _ _ (e3 l d (kok_of hl))).2
theorem pf4 (xs : List V) (h : FitAll Tryd.prog [22, 30, 34] xs) : PF Tryd.prog 4 xs (.b true) := by
  obtain ⟨y1, r1, rfl, h1, y2, r2, rfl, h2, y3, r3, rfl, h3, rfl⟩ := h
  obtain ⟨l, rfl, _, _⟩ := fitS22 h1
  obtain ⟨ms, rfl, _, _⟩ := fitS30 h2
  obtain ⟨x, rfl, hx⟩ := fitT34 h3
  rw [pack22, pack30, pack34]
  exact (sound 4 _ _ (e4 l ms x.d x.day hx.1.2.2.2.2.2.2.2.2)).2
theorem pf5 (xs : List V) (h : FitAll Tryd.prog [25, 3] xs) : PF Tryd.prog 5 xs (.b true) := by
  obtain ⟨y1, r1, rfl, h1, y2, r2, rfl, h2, rfl⟩ := h
  obtain ⟨e, rfl, _⟩ := fit_i64 Tryd.underlying25 h1
  obtain ⟨d, rfl, _⟩ := fit_i64 Tryd.underlying3 h2
  rw [pack25, pack3]
  exact (sound 5 _ _ (e5 e d)).2
theorem pf6 (xs : List V) (h : FitAll Tryd.prog [22, 42] xs) : PF Tryd.prog 6 xs (.b true) := by
  obtain ⟨y1, r1, rfl, h1, y2, r2, rfl, h2, rfl⟩ := h
  obtain ⟨l, rfl, _, _⟩ := fitS22 h1
  obtain ⟨x, rfl, _⟩ := fitT42 h2
  rw [pack22, pack42]
  exact (sound 6 _ _ (e6 l x.id x.reason x.day x.e)).2
theorem pf7 (xs : List V) (h : FitAll Tryd.prog [22, 42, 3] xs) : PF Tryd.prog 7 xs (.b true) := by
  obtain ⟨y1, r1, rfl, h1, y2, r2, rfl, h2, y3, r3, rfl, h3, rfl⟩ := h
  obtain ⟨l, rfl, _, hl⟩ := fitS22 h1
  obtain ⟨x, rfl, _⟩ := fitT42 h2
  obtain ⟨d, rfl, _⟩ := fit_i64 Tryd.underlying3 h3
  rw [pack22, pack42, pack3]
  exact (sound 7 _ _ (e7 l x.id x.reason x.day x.e d (kok_of hl))).2
theorem pf8 (xs : List V) (h : FitAll Tryd.prog [22, 30, 34] xs) : PF Tryd.prog 8 xs (.b true) := by
  obtain ⟨y1, r1, rfl, h1, y2, r2, rfl, h2, y3, r3, rfl, h3, rfl⟩ := h
  obtain ⟨l, rfl, _, hl⟩ := fitS22 h1
  obtain ⟨ms, rfl, _, _⟩ := fitS30 h2
  obtain ⟨x, rfl, hx⟩ := fitT34 h3
  rw [pack22, pack30, pack34]
  exact (sound 8 _ _ (e8 l ms x.d x.day (kok_of hl) hx.1.2.2.2.2.2.2.2.2)).2
/-- From the condition on the package variable to what the walks ask. -/
theorem gok {W : World} (h : laidMetH Tryd.prog [("corebank/collect.windows", Rows.laid_corebank_collect_windows)] W) : GOK (All W) W := by
  rw [MakeChecks.laidMetH_plain _ _ _ (by kernel_rfl)] at h
  have hg : Tryd.prog.globalNamed "corebank/collect.windows" = some 0 := by kernel_rfl
  have hT : Lib.TabIs Tryd.prog W "corebank/collect.windows" .i64 [0, 5, 5, 395, 56] := Lib.tabIs_of_head (t := 58) (e := 3) (n := 5) (rest := []) hg (by kernel_rfl) (by kernel_rfl) (by kernel_rfl) (by kernel_rfl) (by kernel_rfl) h
  intro p hp
  simp only [Glob.gs, List.mem_singleton] at hp
  subst hp
  exact ints_glob (zs := [0, 5, 5, 395, 56]) (by decide) fun i hi => hT.cell hg i hi
theorem own : ownKnob Tryd.prog.godebug = none := by kernel_rfl
theorem laidOut : laidOutB Tryd.prog = true := by kernel_rfl
/-- The package variables' condition, of whatever row. -/
abbrev laidL : List (String × DataW Unit) := [("corebank/collect.windows", Rows.laid_corebank_collect_windows)]
/-- The world in which they were laid meets it. -/
theorem door_met (os : Os) (args : Array Value) : laidMetH Tryd.prog laidL ((World.doorLaid Tryd.prog 400 os).forCall (fun _ _ => 0) ⟨#[], args, []⟩).memory :=
  laidMetH_of_parts3 (fuel := 8) (laidMet_of_run' 8 (by kernel_rfl) (by kernel_rfl)) (by kernel_rfl) (by kernel_rfl)
set_option maxRecDepth 100000 in
theorem collectChecks_lifted (os : Os) (started : os.Started) (H : Type) (enc : TypeId × Value → H) :
    ReturnsInHanded {} Tryd.checked os 3 .any (fun w args => (Rows.collectChecksSpec.pre enc Tryd.prog Tryd.f3 [] false w args ∧ laidMetH Tryd.prog laidL w) ∧ sizedMet enc Tryd.prog Tryd.f3 (OpenSpec.ofChange Rows.collectChecksSpec) false w args)
      (Rows.collectChecksSpec.post enc Tryd.prog Tryd.f3 false true false false) := by
  refine returnsInHanded_of_change_and (C := Tryd.checked) (X := fun w _ => laidMetH Tryd.prog laidL w) (fun _ _ _ hh h => h.of_heap hh) own started (by kernel_rfl) Tryd.func3
    (ChangeSpec.witness_shaped (enc := enc) (C := Tryd.checked) (os := os) (X := fun w _ => laidMetH Tryd.prog laidL w) false (World.doorLaid Tryd.prog 400 os) #[.slice none 0 0, .int .i64 0] 8 rfl (World.shaped_of_RefB (by kernel_rfl) (by kernel_rfl)) (by kernel_rfl) (by kernel_rfl) (by kernel_rfl) (door_met os _)) ?_
  intro W base args ds gs before hval hW _ _ hL _
  refine calls_true (P := Tryd.prog) laidOut ?_ ?_ (tb := 4) rfl Tryd.underlying4 rfl ?_ ?_ hval hW (gok hL)
  · rw [Tryd.params3]; simp only [List.mem_cons, List.not_mem_nil, or_false, forall_eq_or_imp, forall_eq]
    exact ⟨⟨by kernel_rfl, by decide +kernel⟩, ⟨by kernel_rfl, by decide +kernel⟩⟩
  · rw [Tryd.params3]; simp only [List.mem_cons, List.not_mem_nil, or_false, forall_eq_or_imp, forall_eq]
    exact ⟨by kernel_rfl, by kernel_rfl⟩
  · rw [Tryd.params3]
    intro ds hd
    match ds, hd with
    | [d1, d2], _ => rfl
  · rw [Tryd.params3]; exact pf3
theorem collectChecks_holds : Rows.CollectChecksSaid :=
  OpenClaim.holds_of_wide 3 Tryd.f3 rfl rfl rfl rfl rfl rfl rfl ⟨rfl, rfl, rfl, rfl, rfl⟩ rfl rfl rfl rfl rfl (by kernel_rfl) Tryd.func3 (by kernel_rfl)
    (of_decide_eq_true (by kernel_rfl)) (by unfold Func.isWrapper; first | (rw [if_pos (by decide +kernel)]; kernel_rfl) | (rw [if_neg (by decide +kernel)]; exact ⟨rfl, rfl⟩))
    (fun os started H enc _ => collectChecks_lifted os started H enc)
theorem collectChecks_card : Rows.CollectChecksCardSaid :=
  Claim7.holds_tied_plain_at .later [] [.data] true (true, "cad2be0f63b7af76c8abf345337bd7d588f0d65cd10c5be2b02be87782b352f2") false
    collectChecks_holds (fun _ h => by cases h) (by kernel_rfl) (fun _ h => by cases h) collectChecks_row_tie rfl ⟨rfl, rfl⟩ (by kernel_rfl) rfl
    (fun f fn hf hfn => by
      obtain rfl : f = 3 := Option.some.inj ((show Tryd.prog.funcNamed "corebank/corebanklaw42.CollectChecks" = some 3 by kernel_rfl).symm.trans hf) |>.symm
      obtain rfl : fn = Tryd.f3 := (Option.some.inj (Tryd.func3.symm.trans hfn)).symm
      exact ⟨by kernel_rfl, fun j t ht => by
        have hall : (Tryd.f3.params.all fun u => !Tryd.prog.wantsStandIn u) = true := by kernel_rfl
        have := (Array.all_eq_true.1 hall) j (by simpa using (Array.getElem?_eq_some_iff.1 ht).1)
        rw [(Array.getElem?_eq_some_iff.1 ht).2] at this
        exact (show Tryd.prog.wantsStandIn t = false by simpa using this)⟩)
    (by kernel_rfl)
#print axioms collectChecks_card
set_option maxRecDepth 100000 in
theorem collectPresents_lifted (os : Os) (started : os.Started) (H : Type) (enc : TypeId × Value → H) :
    ReturnsInHanded {} Tryd.checked os 4 .any (fun w args => (Rows.collectPresentsSpec.pre enc Tryd.prog Tryd.f4 [] false w args ∧ laidMetH Tryd.prog laidL w) ∧ sizedMet enc Tryd.prog Tryd.f4 (OpenSpec.ofChange Rows.collectPresentsSpec) false w args)
      (Rows.collectPresentsSpec.post enc Tryd.prog Tryd.f4 false true false false) := by
  refine returnsInHanded_of_change_and (C := Tryd.checked) (X := fun w _ => laidMetH Tryd.prog laidL w) (fun _ _ _ hh h => h.of_heap hh) own started (by kernel_rfl) Tryd.func4
    (ChangeSpec.witness_shaped (enc := enc) (C := Tryd.checked) (os := os) (X := fun w _ => laidMetH Tryd.prog laidL w) false (World.doorLaid Tryd.prog 400 os) #[.slice none 0 0, .slice none 0 0, .agg #[.int .i64 0, .int .i64 0, .int .i64 0, .int .i64 0, .int .i64 0, .int .i64 0, .int .i64 0, .int .i64 0, .string ⟨#[]⟩, .int .i64 0]] 8 rfl (World.shaped_of_RefB (by kernel_rfl) (by kernel_rfl)) (by kernel_rfl) (by kernel_rfl) (by kernel_rfl) (door_met os _)) ?_
  intro W base args ds gs before hval hW _ _ hL _
  refine calls_true (P := Tryd.prog) laidOut ?_ ?_ (tb := 4) rfl Tryd.underlying4 rfl ?_ ?_ hval hW (gok hL)
  · rw [Tryd.params4]; simp only [List.mem_cons, List.not_mem_nil, or_false, forall_eq_or_imp, forall_eq]
    exact ⟨⟨by kernel_rfl, by decide +kernel⟩, ⟨by kernel_rfl, by decide +kernel⟩, ⟨by kernel_rfl, by decide +kernel⟩⟩
  · rw [Tryd.params4]; simp only [List.mem_cons, List.not_mem_nil, or_false, forall_eq_or_imp, forall_eq]
    exact ⟨by kernel_rfl, by kernel_rfl, by kernel_rfl⟩
  · rw [Tryd.params4]
    intro ds hd
    match ds, hd with
    | [d1, d2, d3], _ => rfl
  · rw [Tryd.params4]; exact pf4
theorem collectPresents_holds : Rows.CollectPresentsSaid :=
  OpenClaim.holds_of_wide 4 Tryd.f4 rfl rfl rfl rfl rfl rfl rfl ⟨rfl, rfl, rfl, rfl, rfl⟩ rfl rfl rfl rfl rfl (by kernel_rfl) Tryd.func4 (by kernel_rfl)
    (of_decide_eq_true (by kernel_rfl)) (by unfold Func.isWrapper; first | (rw [if_pos (by decide +kernel)]; kernel_rfl) | (rw [if_neg (by decide +kernel)]; exact ⟨rfl, rfl⟩))
    (fun os started H enc _ => collectPresents_lifted os started H enc)
theorem collectPresents_card : Rows.CollectPresentsCardSaid :=
  Claim7.holds_tied_plain_at .later [] [.data] true (true, "cad2be0f63b7af76c8abf345337bd7d588f0d65cd10c5be2b02be87782b352f2") false
    collectPresents_holds (fun _ h => by cases h) (by kernel_rfl) (fun _ h => by cases h) collectPresents_row_tie rfl ⟨rfl, rfl⟩ (by kernel_rfl) rfl
    (fun f fn hf hfn => by
      obtain rfl : f = 4 := Option.some.inj ((show Tryd.prog.funcNamed "corebank/corebanklaw42.CollectPresents" = some 4 by kernel_rfl).symm.trans hf) |>.symm
      obtain rfl : fn = Tryd.f4 := (Option.some.inj (Tryd.func4.symm.trans hfn)).symm
      exact ⟨by kernel_rfl, fun j t ht => by
        have hall : (Tryd.f4.params.all fun u => !Tryd.prog.wantsStandIn u) = true := by kernel_rfl
        have := (Array.all_eq_true.1 hall) j (by simpa using (Array.getElem?_eq_some_iff.1 ht).1)
        rw [(Array.getElem?_eq_some_iff.1 ht).2] at this
        exact (show Tryd.prog.wantsStandIn t = false by simpa using this)⟩)
    (by kernel_rfl)
#print axioms collectPresents_card
set_option maxRecDepth 100000 in
theorem collectReasons_lifted (os : Os) (started : os.Started) (H : Type) (enc : TypeId × Value → H) :
    ReturnsInHanded {} Tryd.checked os 5 .any (fun w args => (Rows.collectReasonsSpec.pre enc Tryd.prog Tryd.f5 [] false w args ∧ laidMetH Tryd.prog laidL w) ∧ sizedMet enc Tryd.prog Tryd.f5 (OpenSpec.ofChange Rows.collectReasonsSpec) false w args)
      (Rows.collectReasonsSpec.post enc Tryd.prog Tryd.f5 false true false false) := by
  refine returnsInHanded_of_change_and (C := Tryd.checked) (X := fun w _ => laidMetH Tryd.prog laidL w) (fun _ _ _ hh h => h.of_heap hh) own started (by kernel_rfl) Tryd.func5
    (ChangeSpec.witness_shaped (enc := enc) (C := Tryd.checked) (os := os) (X := fun w _ => laidMetH Tryd.prog laidL w) false (World.doorLaid Tryd.prog 400 os) #[.int .i64 0, .int .i64 0] 8 rfl (World.shaped_of_RefB (by kernel_rfl) (by kernel_rfl)) (by kernel_rfl) (by kernel_rfl) (by kernel_rfl) (door_met os _)) ?_
  intro W base args ds gs before hval hW _ _ hL _
  refine calls_true (P := Tryd.prog) laidOut ?_ ?_ (tb := 4) rfl Tryd.underlying4 rfl ?_ ?_ hval hW (gok hL)
  · rw [Tryd.params5]; simp only [List.mem_cons, List.not_mem_nil, or_false, forall_eq_or_imp, forall_eq]
    exact ⟨⟨by kernel_rfl, by decide +kernel⟩, ⟨by kernel_rfl, by decide +kernel⟩⟩
  · rw [Tryd.params5]; simp only [List.mem_cons, List.not_mem_nil, or_false, forall_eq_or_imp, forall_eq]
    exact ⟨by kernel_rfl, by kernel_rfl⟩
  · rw [Tryd.params5]
    intro ds hd
    match ds, hd with
    | [d1, d2], _ => rfl
  · rw [Tryd.params5]; exact pf5
theorem collectReasons_holds : Rows.CollectReasonsSaid :=
  OpenClaim.holds_of_wide 5 Tryd.f5 rfl rfl rfl rfl rfl rfl rfl ⟨rfl, rfl, rfl, rfl, rfl⟩ rfl rfl rfl rfl rfl (by kernel_rfl) Tryd.func5 (by kernel_rfl)
    (of_decide_eq_true (by kernel_rfl)) (by unfold Func.isWrapper; first | (rw [if_pos (by decide +kernel)]; kernel_rfl) | (rw [if_neg (by decide +kernel)]; exact ⟨rfl, rfl⟩))
    (fun os started H enc _ => collectReasons_lifted os started H enc)
theorem collectReasons_card : Rows.CollectReasonsCardSaid :=
  Claim7.holds_tied_plain_at .later [] [.data] true (true, "cad2be0f63b7af76c8abf345337bd7d588f0d65cd10c5be2b02be87782b352f2") false
    collectReasons_holds (fun _ h => by cases h) (by kernel_rfl) (fun _ h => by cases h) collectReasons_row_tie rfl ⟨rfl, rfl⟩ (by kernel_rfl) rfl
    (fun f fn hf hfn => by
      obtain rfl : f = 5 := Option.some.inj ((show Tryd.prog.funcNamed "corebank/corebanklaw42.CollectReasons" = some 5 by kernel_rfl).symm.trans hf) |>.symm
      obtain rfl : fn = Tryd.f5 := (Option.some.inj (Tryd.func5.symm.trans hfn)).symm
      exact ⟨by kernel_rfl, fun j t ht => by
        have hall : (Tryd.f5.params.all fun u => !Tryd.prog.wantsStandIn u) = true := by kernel_rfl
        have := (Array.all_eq_true.1 hall) j (by simpa using (Array.getElem?_eq_some_iff.1 ht).1)
        rw [(Array.getElem?_eq_some_iff.1 ht).2] at this
        exact (show Tryd.prog.wantsStandIn t = false by simpa using this)⟩)
    (by kernel_rfl)
#print axioms collectReasons_card
set_option maxRecDepth 100000 in
theorem collectEnds_lifted (os : Os) (started : os.Started) (H : Type) (enc : TypeId × Value → H) :
    ReturnsInHanded {} Tryd.checked os 6 .any (fun w args => (Rows.collectEndsSpec.pre enc Tryd.prog Tryd.f6 [] false w args ∧ laidMetH Tryd.prog laidL w) ∧ sizedMet enc Tryd.prog Tryd.f6 (OpenSpec.ofChange Rows.collectEndsSpec) false w args)
      (Rows.collectEndsSpec.post enc Tryd.prog Tryd.f6 false true false false) := by
  refine returnsInHanded_of_change_and (C := Tryd.checked) (X := fun w _ => laidMetH Tryd.prog laidL w) (fun _ _ _ hh h => h.of_heap hh) own started (by kernel_rfl) Tryd.func6
    (ChangeSpec.witness_shaped (enc := enc) (C := Tryd.checked) (os := os) (X := fun w _ => laidMetH Tryd.prog laidL w) false (World.doorLaid Tryd.prog 400 os) #[.slice none 0 0, .agg #[.int .i64 0, .int .i64 0, .int .i64 0, .int .i64 0]] 8 rfl (World.shaped_of_RefB (by kernel_rfl) (by kernel_rfl)) (by kernel_rfl) (by kernel_rfl) (by kernel_rfl) (door_met os _)) ?_
  intro W base args ds gs before hval hW _ _ hL _
  refine calls_true (P := Tryd.prog) laidOut ?_ ?_ (tb := 4) rfl Tryd.underlying4 rfl ?_ ?_ hval hW (gok hL)
  · rw [Tryd.params6]; simp only [List.mem_cons, List.not_mem_nil, or_false, forall_eq_or_imp, forall_eq]
    exact ⟨⟨by kernel_rfl, by decide +kernel⟩, ⟨by kernel_rfl, by decide +kernel⟩⟩
  · rw [Tryd.params6]; simp only [List.mem_cons, List.not_mem_nil, or_false, forall_eq_or_imp, forall_eq]
    exact ⟨by kernel_rfl, by kernel_rfl⟩
  · rw [Tryd.params6]
    intro ds hd
    match ds, hd with
    | [d1, d2], _ => rfl
  · rw [Tryd.params6]; exact pf6
theorem collectEnds_holds : Rows.CollectEndsSaid :=
  OpenClaim.holds_of_wide 6 Tryd.f6 rfl rfl rfl rfl rfl rfl rfl ⟨rfl, rfl, rfl, rfl, rfl⟩ rfl rfl rfl rfl rfl (by kernel_rfl) Tryd.func6 (by kernel_rfl)
    (of_decide_eq_true (by kernel_rfl)) (by unfold Func.isWrapper; first | (rw [if_pos (by decide +kernel)]; kernel_rfl) | (rw [if_neg (by decide +kernel)]; exact ⟨rfl, rfl⟩))
    (fun os started H enc _ => collectEnds_lifted os started H enc)
theorem collectEnds_card : Rows.CollectEndsCardSaid :=
  Claim7.holds_tied_plain_at .later [] [.data] true (true, "cad2be0f63b7af76c8abf345337bd7d588f0d65cd10c5be2b02be87782b352f2") false
    collectEnds_holds (fun _ h => by cases h) (by kernel_rfl) (fun _ h => by cases h) collectEnds_row_tie rfl ⟨rfl, rfl⟩ (by kernel_rfl) rfl
    (fun f fn hf hfn => by
      obtain rfl : f = 6 := Option.some.inj ((show Tryd.prog.funcNamed "corebank/corebanklaw42.CollectEnds" = some 6 by kernel_rfl).symm.trans hf) |>.symm
      obtain rfl : fn = Tryd.f6 := (Option.some.inj (Tryd.func6.symm.trans hfn)).symm
      exact ⟨by kernel_rfl, fun j t ht => by
        have hall : (Tryd.f6.params.all fun u => !Tryd.prog.wantsStandIn u) = true := by kernel_rfl
        have := (Array.all_eq_true.1 hall) j (by simpa using (Array.getElem?_eq_some_iff.1 ht).1)
        rw [(Array.getElem?_eq_some_iff.1 ht).2] at this
        exact (show Tryd.prog.wantsStandIn t = false by simpa using this)⟩)
    (by kernel_rfl)
#print axioms collectEnds_card
set_option maxRecDepth 100000 in
theorem collectOnce_lifted (os : Os) (started : os.Started) (H : Type) (enc : TypeId × Value → H) :
    ReturnsInHanded {} Tryd.checked os 7 .any (fun w args => (Rows.collectOnceSpec.pre enc Tryd.prog Tryd.f7 [] false w args ∧ laidMetH Tryd.prog laidL w) ∧ sizedMet enc Tryd.prog Tryd.f7 (OpenSpec.ofChange Rows.collectOnceSpec) false w args)
      (Rows.collectOnceSpec.post enc Tryd.prog Tryd.f7 false true false false) := by
  refine returnsInHanded_of_change_and (C := Tryd.checked) (X := fun w _ => laidMetH Tryd.prog laidL w) (fun _ _ _ hh h => h.of_heap hh) own started (by kernel_rfl) Tryd.func7
    (ChangeSpec.witness_shaped (enc := enc) (C := Tryd.checked) (os := os) (X := fun w _ => laidMetH Tryd.prog laidL w) false (World.doorLaid Tryd.prog 400 os) #[.slice none 0 0, .agg #[.int .i64 0, .int .i64 0, .int .i64 0, .int .i64 0], .int .i64 0] 8 rfl (World.shaped_of_RefB (by kernel_rfl) (by kernel_rfl)) (by kernel_rfl) (by kernel_rfl) (by kernel_rfl) (door_met os _)) ?_
  intro W base args ds gs before hval hW _ _ hL _
  refine calls_true (P := Tryd.prog) laidOut ?_ ?_ (tb := 4) rfl Tryd.underlying4 rfl ?_ ?_ hval hW (gok hL)
  · rw [Tryd.params7]; simp only [List.mem_cons, List.not_mem_nil, or_false, forall_eq_or_imp, forall_eq]
    exact ⟨⟨by kernel_rfl, by decide +kernel⟩, ⟨by kernel_rfl, by decide +kernel⟩, ⟨by kernel_rfl, by decide +kernel⟩⟩
  · rw [Tryd.params7]; simp only [List.mem_cons, List.not_mem_nil, or_false, forall_eq_or_imp, forall_eq]
    exact ⟨by kernel_rfl, by kernel_rfl, by kernel_rfl⟩
  · rw [Tryd.params7]
    intro ds hd
    match ds, hd with
    | [d1, d2, d3], _ => rfl
  · rw [Tryd.params7]; exact pf7
theorem collectOnce_holds : Rows.CollectOnceSaid :=
  OpenClaim.holds_of_wide 7 Tryd.f7 rfl rfl rfl rfl rfl rfl rfl ⟨rfl, rfl, rfl, rfl, rfl⟩ rfl rfl rfl rfl rfl (by kernel_rfl) Tryd.func7 (by kernel_rfl)
    (of_decide_eq_true (by kernel_rfl)) (by unfold Func.isWrapper; first | (rw [if_pos (by decide +kernel)]; kernel_rfl) | (rw [if_neg (by decide +kernel)]; exact ⟨rfl, rfl⟩))
    (fun os started H enc _ => collectOnce_lifted os started H enc)
theorem collectOnce_card : Rows.CollectOnceCardSaid :=
  Claim7.holds_tied_plain_at .later [] [.data] true (true, "cad2be0f63b7af76c8abf345337bd7d588f0d65cd10c5be2b02be87782b352f2") false
    collectOnce_holds (fun _ h => by cases h) (by kernel_rfl) (fun _ h => by cases h) collectOnce_row_tie rfl ⟨rfl, rfl⟩ (by kernel_rfl) rfl
    (fun f fn hf hfn => by
      obtain rfl : f = 7 := Option.some.inj ((show Tryd.prog.funcNamed "corebank/corebanklaw42.CollectOnce" = some 7 by kernel_rfl).symm.trans hf) |>.symm
      obtain rfl : fn = Tryd.f7 := (Option.some.inj (Tryd.func7.symm.trans hfn)).symm
      exact ⟨by kernel_rfl, fun j t ht => by
        have hall : (Tryd.f7.params.all fun u => !Tryd.prog.wantsStandIn u) = true := by kernel_rfl
        have := (Array.all_eq_true.1 hall) j (by simpa using (Array.getElem?_eq_some_iff.1 ht).1)
        rw [(Array.getElem?_eq_some_iff.1 ht).2] at this
        exact (show Tryd.prog.wantsStandIn t = false by simpa using this)⟩)
    (by kernel_rfl)
#print axioms collectOnce_card
set_option maxRecDepth 100000 in
theorem collectAdds_lifted (os : Os) (started : os.Started) (H : Type) (enc : TypeId × Value → H) :
    ReturnsInHanded {} Tryd.checked os 8 .any (fun w args => (Rows.collectAddsSpec.pre enc Tryd.prog Tryd.f8 [] false w args ∧ laidMetH Tryd.prog laidL w) ∧ sizedMet enc Tryd.prog Tryd.f8 (OpenSpec.ofChange Rows.collectAddsSpec) false w args)
      (Rows.collectAddsSpec.post enc Tryd.prog Tryd.f8 false true false false) := by
  refine returnsInHanded_of_change_and (C := Tryd.checked) (X := fun w _ => laidMetH Tryd.prog laidL w) (fun _ _ _ hh h => h.of_heap hh) own started (by kernel_rfl) Tryd.func8
    (ChangeSpec.witness_shaped (enc := enc) (C := Tryd.checked) (os := os) (X := fun w _ => laidMetH Tryd.prog laidL w) false (World.doorLaid Tryd.prog 400 os) #[.slice none 0 0, .slice none 0 0, .agg #[.int .i64 0, .int .i64 0, .int .i64 0, .int .i64 0, .int .i64 0, .int .i64 0, .int .i64 0, .int .i64 0, .string ⟨#[]⟩, .int .i64 0]] 8 rfl (World.shaped_of_RefB (by kernel_rfl) (by kernel_rfl)) (by kernel_rfl) (by kernel_rfl) (by kernel_rfl) (door_met os _)) ?_
  intro W base args ds gs before hval hW _ _ hL _
  refine calls_true (P := Tryd.prog) laidOut ?_ ?_ (tb := 4) rfl Tryd.underlying4 rfl ?_ ?_ hval hW (gok hL)
  · rw [Tryd.params8]; simp only [List.mem_cons, List.not_mem_nil, or_false, forall_eq_or_imp, forall_eq]
    exact ⟨⟨by kernel_rfl, by decide +kernel⟩, ⟨by kernel_rfl, by decide +kernel⟩, ⟨by kernel_rfl, by decide +kernel⟩⟩
  · rw [Tryd.params8]; simp only [List.mem_cons, List.not_mem_nil, or_false, forall_eq_or_imp, forall_eq]
    exact ⟨by kernel_rfl, by kernel_rfl, by kernel_rfl⟩
  · rw [Tryd.params8]
    intro ds hd
    match ds, hd with
    | [d1, d2, d3], _ => rfl
  · rw [Tryd.params8]; exact pf8
theorem collectAdds_holds : Rows.CollectAddsSaid :=
  OpenClaim.holds_of_wide 8 Tryd.f8 rfl rfl rfl rfl rfl rfl rfl ⟨rfl, rfl, rfl, rfl, rfl⟩ rfl rfl rfl rfl rfl (by kernel_rfl) Tryd.func8 (by kernel_rfl)
    (of_decide_eq_true (by kernel_rfl)) (by unfold Func.isWrapper; first | (rw [if_pos (by decide +kernel)]; kernel_rfl) | (rw [if_neg (by decide +kernel)]; exact ⟨rfl, rfl⟩))
    (fun os started H enc _ => collectAdds_lifted os started H enc)
theorem collectAdds_card : Rows.CollectAddsCardSaid :=
  Claim7.holds_tied_plain_at .later [] [.data] true (true, "cad2be0f63b7af76c8abf345337bd7d588f0d65cd10c5be2b02be87782b352f2") false
    collectAdds_holds (fun _ h => by cases h) (by kernel_rfl) (fun _ h => by cases h) collectAdds_row_tie rfl ⟨rfl, rfl⟩ (by kernel_rfl) rfl
    (fun f fn hf hfn => by
      obtain rfl : f = 8 := Option.some.inj ((show Tryd.prog.funcNamed "corebank/corebanklaw42.CollectAdds" = some 8 by kernel_rfl).symm.trans hf) |>.symm
      obtain rfl : fn = Tryd.f8 := (Option.some.inj (Tryd.func8.symm.trans hfn)).symm
      exact ⟨by kernel_rfl, fun j t ht => by
        have hall : (Tryd.f8.params.all fun u => !Tryd.prog.wantsStandIn u) = true := by kernel_rfl
        have := (Array.all_eq_true.1 hall) j (by simpa using (Array.getElem?_eq_some_iff.1 ht).1)
        rw [(Array.getElem?_eq_some_iff.1 ht).2] at this
        exact (show Tryd.prog.wantsStandIn t = false by simpa using this)⟩)
    (by kernel_rfl)
#print axioms collectAdds_card
end Go.Proofs.YtoahbbpjhdegoaaDoor
