/-
The law of a trial of postings: its card. Its package variables are those that the program's text lays.
-/
import Derived.Test.YtdlpbedneamebaaGreatDoorTNB
set_option linter.all false
namespace Go.Proofs.YtdlpbedneamebaaGreatDoor
open Go.ChangeShapes Go.WideShapes Go.ChangeAt Go.RowKit Go.VM
theorem eW9:Rows.topTrialRow.wfByText (OpenSpec.ofChange Rows.topTrialSpec)=true:=by kernel_rfl
theorem eX1:Tryz.pinned.checked.prog.mainIs=some (true,"f86b58360b0f567acd6266e9f28f738bca13159a45f8556d31f833d7480a0146".toList):=by kernel_rfl
theorem eX3:false=Rows.topTrialRow.goesBy Tryz.pinned.checked.prog:=by kernel_rfl
theorem eX4:Tryz.prog.funcNamed "corebank/corebanktop.TopTrial"=some 4:=by kernel_rfl
theorem eX2:true=Tryz.pinned.checked.prog.looks []:=by kernel_rfl
theorem eX0:(Tryz.f4.params.all fun u=> !Tryz.prog.wantsStandIn u)=true:=by kernel_rfl
theorem topTrial_card:Rows.TopTrialCardSaid:=
 Claim7.holds_tied_plain_at .later [] [.data,.data,.data,.data,.sentinel,.sentinel,.listed,.data] true (true,"f86b58360b0f567acd6266e9f28f738bca13159a45f8556d31f833d7480a0146") true
  topTrial_holds (fun _ h=>by cases h) eW9 (fun _ h=>by cases h) topTrial_row_tie rfl ⟨rfl,rfl⟩ eX1 rfl
  (fun f fn hf Cm=>by
   obtain rfl:f=4:=uR (eX4.symm.trans hf) |>.symm;obtain rfl:fn=Tryz.f4:=(uR (Tryz.func4.symm.trans Cm)).symm;exact⟨eX2,fun j t ht=>by
    have:=(Array.all_eq_true.1 eX0) j (by simpa using(j6.1 ht).1);rw[(j6.1 ht).2] at this;exact(show Tryz.prog.wantsStandIn t=false by simpa using this)⟩)
  eX3
#print axioms topTrial_card
end Go.Proofs.YtdlpbedneamebaaGreatDoor
