/-
  DERIVED. GIVEN WITH THE SEED: THE CARDS: each row of YtdlpbedneamebaaGreatDoorRows.lean that lists a variable, with what it lists TIED to the program's text (the seventh form; the later family's looks); each row that meets fmt, with fmt's text TOLD by the authors' own Lean function (tested against real Go, not proved from fmt's source: count such statements apart). THE CARD IS WHAT COUNTS. Prove the row's statement (the work); the ties are given (YtdlpbedneamebaaGreatDoorTie.lean); close each card by the builder's one call (the guide's Derived/Test/ToyasCard.lean, 'card_holds'). Laid BY PROGRAM, IN A SANDBOX (cutbox-door.mjs). By AI agents, Wed Nov 11 2026. No macro, syntax, notation, axiom, sorry.
-/
import Derived.Test.YtdlpbedneamebaaGreatDoorRows
import GoSem.ClaimSeven
namespace Go.Proofs.YtdlpbedneamebaaGreatDoor
namespace Rows

/-- THE TIED CARD OF 'corebanktop.TopReports'. -/
def topReportsCard : Claim7 := { stood := { row := topReportsRow, standIns := [], harness := (true, "f86b58360b0f567acd6266e9f28f738bca13159a45f8556d31f833d7480a0146"), looks := true }, kinds := [], alts := [], laidByText := true, laidKinds := [.data, .data, .data, .data, .sentinel, .sentinel, .listed, .data], laidTests := true, laidLooks := .later }
def TopReportsCardSaid : Prop := Claim7.holds Tryz.pinned (.plain (OpenSpec.ofChange topReportsSpec)) topReportsCard

/-- THE TIED CARD OF 'corebanktop.TopTrial'. -/
def topTrialCard : Claim7 := { stood := { row := topTrialRow, standIns := [], harness := (true, "f86b58360b0f567acd6266e9f28f738bca13159a45f8556d31f833d7480a0146"), looks := true }, kinds := [], alts := [], laidByText := true, laidKinds := [.data, .data, .data, .data, .sentinel, .sentinel, .listed, .data], laidTests := true, laidLooks := .later }
def TopTrialCardSaid : Prop := Claim7.holds Tryz.pinned (.plain (OpenSpec.ofChange topTrialSpec)) topTrialCard

/-- THE SECOND FORM's CARD OF 'corebanktop.TopReports'. -/
def topReportsUptoCard : Claim7 := { stood := { row := topReportsUptoRow, standIns := [], harness := (true, "f86b58360b0f567acd6266e9f28f738bca13159a45f8556d31f833d7480a0146"), looks := true }, kinds := [], alts := [], laidByText := true, laidKinds := [.data, .data, .data, .data, .sentinel, .sentinel, .listed, .data], laidTests := true, laidLooks := .later }
def TopReportsUptoCardSaid : Prop := Claim7.holds Tryz.pinned (.plain (OpenSpec.upto topReportsSpec)) topReportsUptoCard

/-- THE SECOND FORM's CARD OF 'corebanktop.TopTrial'. -/
def topTrialUptoCard : Claim7 := { stood := { row := topTrialUptoRow, standIns := [], harness := (true, "f86b58360b0f567acd6266e9f28f738bca13159a45f8556d31f833d7480a0146"), looks := true }, kinds := [], alts := [], laidByText := true, laidKinds := [.data, .data, .data, .data, .sentinel, .sentinel, .listed, .data], laidTests := true, laidLooks := .later }
def TopTrialUptoCardSaid : Prop := Claim7.holds Tryz.pinned (.plain (OpenSpec.upto topTrialSpec)) topTrialUptoCard
end Rows
end Go.Proofs.YtdlpbedneamebaaGreatDoor
