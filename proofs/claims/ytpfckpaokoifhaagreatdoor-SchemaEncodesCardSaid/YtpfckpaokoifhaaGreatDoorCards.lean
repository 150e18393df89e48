/-
  DERIVED. GIVEN WITH THE SEED: THE CARDS: each row of YtpfckpaokoifhaaGreatDoorRows.lean that lists a variable, with what it lists TIED to the program's text (the seventh form; the later family's looks); each row that meets fmt, with fmt's text TOLD by the authors' own Lean function (tested against real Go, not proved from fmt's source: count such statements apart). THE CARD IS WHAT COUNTS. Prove the row's statement (the work); the ties are given (YtpfckpaokoifhaaGreatDoorTie.lean); close each card by the builder's one call (the guide's Derived/Test/ToyasCard.lean, 'card_holds'). Laid BY PROGRAM, IN A SANDBOX (cutbox-door.mjs). By AI agents, Wed Nov 11 2026. No macro, syntax, notation, axiom, sorry.
-/
import Derived.Test.YtpfckpaokoifhaaGreatDoorRows
import GoSem.ClaimSeven
namespace Go.Proofs.YtpfckpaokoifhaaGreatDoor
namespace Rows

/-- THE TIED CARD OF 'pawllaw08.SchemaChecks'. -/
def schemaChecksCard : Claim7 := { stood := { row := schemaChecksRow, standIns := [], harness := (true, "63315128553fd834e79b60093d7a9056a815dba660303a8abfc02a1c59f1a52a"), looks := true }, kinds := [], alts := [], laidByText := true, laidKinds := [.data, .handle, .pinned], laidTests := true, laidLooks := .later }
def SchemaChecksCardSaid : Prop := Claim7.holds Tryz.pinned (.plain (OpenSpec.ofChange schemaChecksSpec)) schemaChecksCard

/-- THE TIED CARD OF 'pawllaw08.SchemaEncodes'. -/
def schemaEncodesCard : Claim7 := { stood := { row := schemaEncodesRow, standIns := [], harness := (true, "63315128553fd834e79b60093d7a9056a815dba660303a8abfc02a1c59f1a52a"), looks := true }, kinds := [], alts := [], laidByText := true, laidKinds := [.data, .handle, .pinned], laidTests := true, laidLooks := .later }
def SchemaEncodesCardSaid : Prop := Claim7.holds Tryz.pinned (.plain (OpenSpec.ofChange schemaEncodesSpec)) schemaEncodesCard

/-- THE SECOND FORM's CARD OF 'pawllaw08.SchemaChecks'. -/
def schemaChecksUptoCard : Claim7 := { stood := { row := schemaChecksUptoRow, standIns := [], harness := (true, "63315128553fd834e79b60093d7a9056a815dba660303a8abfc02a1c59f1a52a"), looks := true }, kinds := [], alts := [], laidByText := true, laidKinds := [.data, .handle, .pinned], laidTests := true, laidLooks := .later }
def SchemaChecksUptoCardSaid : Prop := Claim7.holds Tryz.pinned (.plain (OpenSpec.upto schemaChecksSpec)) schemaChecksUptoCard

/-- THE SECOND FORM's CARD OF 'pawllaw08.SchemaEncodes'. -/
def schemaEncodesUptoCard : Claim7 := { stood := { row := schemaEncodesUptoRow, standIns := [], harness := (true, "63315128553fd834e79b60093d7a9056a815dba660303a8abfc02a1c59f1a52a"), looks := true }, kinds := [], alts := [], laidByText := true, laidKinds := [.data, .handle, .pinned], laidTests := true, laidLooks := .later }
def SchemaEncodesUptoCardSaid : Prop := Claim7.holds Tryz.pinned (.plain (OpenSpec.upto schemaEncodesSpec)) schemaEncodesUptoCard
end Rows
end Go.Proofs.YtpfckpaokoifhaaGreatDoor
