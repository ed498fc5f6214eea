/-
  The law that a report over all leaves of the chart adds up to nothing: its card. Its package variables are those that the program's text lays.
-/
import Derived.Test.YtdlpbedneamebaaGreatDoorChecks
namespace Go.Proofs.YtdlpbedneamebaaGreatDoor
open Go.ChangeShapes Go.WideShapes Go.ChangeAt Go.RowKit Go.VM
theorem card_w : Rows.topReportsRow.wfByText (OpenSpec.ofChange Rows.topReportsSpec) = true := by kernel_rfl
theorem card_m : Tryz.pinned.checked.prog.mainIs = some (true, "f86b58360b0f567acd6266e9f28f738bca13159a45f8556d31f833d7480a0146".toList) := by kernel_rfl
theorem card_g : false = Rows.topReportsRow.goesBy Tryz.pinned.checked.prog := by kernel_rfl
theorem card_f : Tryz.prog.funcNamed "corebank/corebanktop.TopReports" = some 3 := by kernel_rfl
theorem card_l : true = Tryz.pinned.checked.prog.looks [] := by kernel_rfl
theorem card_s : (Tryz.f3.params.all fun u => !Tryz.prog.wantsStandIn u) = true := by kernel_rfl
theorem topReports_card : Rows.TopReportsCardSaid :=
  Claim7.holds_tied_plain_at .later [] [.data, .data, .data, .data, .sentinel, .sentinel, .listed, .data] true (true, "f86b58360b0f567acd6266e9f28f738bca13159a45f8556d31f833d7480a0146") true
    topReports_holds (fun _ h => by cases h) card_w (fun _ h => by cases h) topReports_row_tie rfl ⟨rfl, rfl⟩ card_m rfl
    (fun f fn hf hfn => by
      obtain rfl : f = 3 := Option.some.inj (card_f.symm.trans hf) |>.symm
      obtain rfl : fn = Tryz.f3 := (Option.some.inj (Tryz.func3.symm.trans hfn)).symm
      exact ⟨card_l, fun j t ht => by
        have := (Array.all_eq_true.1 card_s) j (by simpa using (Array.getElem?_eq_some_iff.1 ht).1)
        rw [(Array.getElem?_eq_some_iff.1 ht).2] at this
        exact (show Tryz.prog.wantsStandIn t = false by simpa using this)⟩)
    card_g
#print axioms topReports_card
end Go.Proofs.YtdlpbedneamebaaGreatDoor
