/-
  DERIVED. GIVEN WITH THE SEED: THE CARDS: each row of YtoahbbpjhdegoaaDoorRows.lean that lists a variable, with what it lists TIED to the program's text (the seventh form; the later family's looks); each row that meets fmt, with fmt's text TOLD by the authors' own Lean function (tested against real Go, not proved from fmt's source: count such statements apart). THE CARD IS WHAT COUNTS. Prove the row's statement (the work); the ties are given (YtoahbbpjhdegoaaDoorTie.lean); close each card by the builder's one call (the guide's Derived/Test/ToyasCard.lean, 'card_holds'). Laid BY PROGRAM, IN A SANDBOX (cutbox-door.mjs). By AI agents, Wed Nov 11 2026. No macro, syntax, notation, axiom, sorry.
-/
import Derived.Test.YtoahbbpjhdegoaaDoorRows
import GoSem.ClaimSeven
namespace Go.Proofs.YtoahbbpjhdegoaaDoor
namespace Rows

/-- THE TIED CARD OF 'corebanklaw42.CollectChecks'. -/
def collectChecksCard : Claim7 := { stood := { row := collectChecksRow, standIns := [], harness := (true, "cad2be0f63b7af76c8abf345337bd7d588f0d65cd10c5be2b02be87782b352f2"), looks := false }, kinds := [], alts := [], laidByText := true, laidKinds := [.data], laidTests := true, laidLooks := .later }
def CollectChecksCardSaid : Prop := Claim7.holds Tryd.pinned (.plain (OpenSpec.ofChange collectChecksSpec)) collectChecksCard

/-- THE TIED CARD OF 'corebanklaw42.CollectPresents'. -/
def collectPresentsCard : Claim7 := { stood := { row := collectPresentsRow, standIns := [], harness := (true, "cad2be0f63b7af76c8abf345337bd7d588f0d65cd10c5be2b02be87782b352f2"), looks := false }, kinds := [], alts := [], laidByText := true, laidKinds := [.data], laidTests := true, laidLooks := .later }
def CollectPresentsCardSaid : Prop := Claim7.holds Tryd.pinned (.plain (OpenSpec.ofChange collectPresentsSpec)) collectPresentsCard

/-- THE TIED CARD OF 'corebanklaw42.CollectReasons'. -/
def collectReasonsCard : Claim7 := { stood := { row := collectReasonsRow, standIns := [], harness := (true, "cad2be0f63b7af76c8abf345337bd7d588f0d65cd10c5be2b02be87782b352f2"), looks := false }, kinds := [], alts := [], laidByText := true, laidKinds := [.data], laidTests := true, laidLooks := .later }
def CollectReasonsCardSaid : Prop := Claim7.holds Tryd.pinned (.plain (OpenSpec.ofChange collectReasonsSpec)) collectReasonsCard

/-- THE TIED CARD OF 'corebanklaw42.CollectEnds'. -/
def collectEndsCard : Claim7 := { stood := { row := collectEndsRow, standIns := [], harness := (true, "cad2be0f63b7af76c8abf345337bd7d588f0d65cd10c5be2b02be87782b352f2"), looks := false }, kinds := [], alts := [], laidByText := true, laidKinds := [.data], laidTests := true, laidLooks := .later }
def CollectEndsCardSaid : Prop := Claim7.holds Tryd.pinned (.plain (OpenSpec.ofChange collectEndsSpec)) collectEndsCard

/-- THE TIED CARD OF 'corebanklaw42.CollectOnce'. -/
def collectOnceCard : Claim7 := { stood := { row := collectOnceRow, standIns := [], harness := (true, "cad2be0f63b7af76c8abf345337bd7d588f0d65cd10c5be2b02be87782b352f2"), looks := false }, kinds := [], alts := [], laidByText := true, laidKinds := [.data], laidTests := true, laidLooks := .later }
def CollectOnceCardSaid : Prop := Claim7.holds Tryd.pinned (.plain (OpenSpec.ofChange collectOnceSpec)) collectOnceCard

/-- THE TIED CARD OF 'corebanklaw42.CollectAdds'. -/
def collectAddsCard : Claim7 := { stood := { row := collectAddsRow, standIns := [], harness := (true, "cad2be0f63b7af76c8abf345337bd7d588f0d65cd10c5be2b02be87782b352f2"), looks := false }, kinds := [], alts := [], laidByText := true, laidKinds := [.data], laidTests := true, laidLooks := .later }
def CollectAddsCardSaid : Prop := Claim7.holds Tryd.pinned (.plain (OpenSpec.ofChange collectAddsSpec)) collectAddsCard

/-- THE SECOND FORM's CARD OF 'corebanklaw42.CollectChecks'. -/
def collectChecksUptoCard : Claim7 := { stood := { row := collectChecksUptoRow, standIns := [], harness := (true, "cad2be0f63b7af76c8abf345337bd7d588f0d65cd10c5be2b02be87782b352f2"), looks := false }, kinds := [], alts := [], laidByText := true, laidKinds := [.data], laidTests := true, laidLooks := .later }
def CollectChecksUptoCardSaid : Prop := Claim7.holds Tryd.pinned (.plain (OpenSpec.upto collectChecksSpec)) collectChecksUptoCard

/-- THE SECOND FORM's CARD OF 'corebanklaw42.CollectPresents'. -/
def collectPresentsUptoCard : Claim7 := { stood := { row := collectPresentsUptoRow, standIns := [], harness := (true, "cad2be0f63b7af76c8abf345337bd7d588f0d65cd10c5be2b02be87782b352f2"), looks := false }, kinds := [], alts := [], laidByText := true, laidKinds := [.data], laidTests := true, laidLooks := .later }
def CollectPresentsUptoCardSaid : Prop := Claim7.holds Tryd.pinned (.plain (OpenSpec.upto collectPresentsSpec)) collectPresentsUptoCard

/-- THE SECOND FORM's CARD OF 'corebanklaw42.CollectReasons'. -/
def collectReasonsUptoCard : Claim7 := { stood := { row := collectReasonsUptoRow, standIns := [], harness := (true, "cad2be0f63b7af76c8abf345337bd7d588f0d65cd10c5be2b02be87782b352f2"), looks := false }, kinds := [], alts := [], laidByText := true, laidKinds := [.data], laidTests := true, laidLooks := .later }
def CollectReasonsUptoCardSaid : Prop := Claim7.holds Tryd.pinned (.plain (OpenSpec.upto collectReasonsSpec)) collectReasonsUptoCard

/-- THE SECOND FORM's CARD OF 'corebanklaw42.CollectEnds'. -/
def collectEndsUptoCard : Claim7 := { stood := { row := collectEndsUptoRow, standIns := [], harness := (true, "cad2be0f63b7af76c8abf345337bd7d588f0d65cd10c5be2b02be87782b352f2"), looks := false }, kinds := [], alts := [], laidByText := true, laidKinds := [.data], laidTests := true, laidLooks := .later }
def CollectEndsUptoCardSaid : Prop := Claim7.holds Tryd.pinned (.plain (OpenSpec.upto collectEndsSpec)) collectEndsUptoCard

/-- THE SECOND FORM's CARD OF 'corebanklaw42.CollectOnce'. -/
def collectOnceUptoCard : Claim7 := { stood := { row := collectOnceUptoRow, standIns := [], harness := (true, "cad2be0f63b7af76c8abf345337bd7d588f0d65cd10c5be2b02be87782b352f2"), looks := false }, kinds := [], alts := [], laidByText := true, laidKinds := [.data], laidTests := true, laidLooks := .later }
def CollectOnceUptoCardSaid : Prop := Claim7.holds Tryd.pinned (.plain (OpenSpec.upto collectOnceSpec)) collectOnceUptoCard

/-- THE SECOND FORM's CARD OF 'corebanklaw42.CollectAdds'. -/
def collectAddsUptoCard : Claim7 := { stood := { row := collectAddsUptoRow, standIns := [], harness := (true, "cad2be0f63b7af76c8abf345337bd7d588f0d65cd10c5be2b02be87782b352f2"), looks := false }, kinds := [], alts := [], laidByText := true, laidKinds := [.data], laidTests := true, laidLooks := .later }
def CollectAddsUptoCardSaid : Prop := Claim7.holds Tryd.pinned (.plain (OpenSpec.upto collectAddsSpec)) collectAddsUptoCard
end Rows
end Go.Proofs.YtoahbbpjhdegoaaDoor
