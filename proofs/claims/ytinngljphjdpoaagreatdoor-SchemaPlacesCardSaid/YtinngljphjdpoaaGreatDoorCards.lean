/-
  DERIVED. GIVEN WITH THE SEED: THE CARDS: each row of YtinngljphjdpoaaGreatDoorRows.lean that lists a variable, with what it lists TIED to the program's text (the seventh form; the later family's looks); each row that meets fmt, with fmt's text TOLD by the authors' own Lean function (tested against real Go, not proved from fmt's source: count such statements apart). THE CARD IS WHAT COUNTS. Prove the row's statement (the work); the ties are given (YtinngljphjdpoaaGreatDoorTie.lean); close each card by the builder's one call (the guide's Derived/Test/ToyasCard.lean, 'card_holds'). Laid BY PROGRAM, IN A SANDBOX (cutbox-door.mjs). By AI agents, Wed Nov 11 2026. No macro, syntax, notation, axiom, sorry.
-/
import Derived.Test.YtinngljphjdpoaaGreatDoorRows
import GoSem.ClaimSeven
namespace Go.Proofs.YtinngljphjdpoaaGreatDoor
namespace Rows

/-- THE TIED CARD OF 'pawllaw08.SchemaDecodes'. -/
def schemaDecodesCard : Claim7 := { stood := { row := schemaDecodesRow, standIns := [], harness := (true, "8c047c56ed6a08dbb39e68dcaeeac28d76f6a2aac3a37db03becb7f9bb678c01"), looks := true }, kinds := [], alts := [], laidByText := true, laidKinds := [.data, .handle, .pinned], laidTests := true, laidLooks := .later }
def SchemaDecodesCardSaid : Prop := Claim7.holds Tryz.pinned (.plain (OpenSpec.ofChange schemaDecodesSpec)) schemaDecodesCard

/-- THE TIED CARD OF 'pawllaw14.AgreePacks'. -/
def agreePacksCard : Claim7 := { stood := { row := agreePacksRow, standIns := [], harness := (true, "8c047c56ed6a08dbb39e68dcaeeac28d76f6a2aac3a37db03becb7f9bb678c01"), looks := true }, kinds := [], alts := [], laidByText := true, laidKinds := [.data, .pinned], laidTests := true, laidLooks := .later }
def AgreePacksCardSaid : Prop := Claim7.holds Tryz.pinned (.plain (OpenSpec.ofChange agreePacksSpec)) agreePacksCard

/-- THE TIED CARD OF 'pawllaw10.EnvelopeHeaders'. -/
def envelopeHeadersCard : Claim7 := { stood := { row := envelopeHeadersRow, standIns := [], harness := (true, "8c047c56ed6a08dbb39e68dcaeeac28d76f6a2aac3a37db03becb7f9bb678c01"), looks := true }, kinds := [], alts := [], laidByText := true, laidKinds := [.data, .pinned], laidTests := true, laidLooks := .later }
def EnvelopeHeadersCardSaid : Prop := Claim7.holds Tryz.pinned (.plain (OpenSpec.ofChange envelopeHeadersSpec)) envelopeHeadersCard

/-- THE TIED CARD OF 'pawllaw08.SchemaExact'. -/
def schemaExactCard : Claim7 := { stood := { row := schemaExactRow, standIns := [], harness := (true, "8c047c56ed6a08dbb39e68dcaeeac28d76f6a2aac3a37db03becb7f9bb678c01"), looks := true }, kinds := [], alts := [], laidByText := true, laidKinds := [.data, .handle, .pinned], laidTests := true, laidLooks := .later }
def SchemaExactCardSaid : Prop := Claim7.holds Tryz.pinned (.plain (OpenSpec.ofChange schemaExactSpec)) schemaExactCard

/-- THE TIED CARD OF 'pawllaw08.SchemaPlaces'. -/
def schemaPlacesCard : Claim7 := { stood := { row := schemaPlacesRow, standIns := [], harness := (true, "8c047c56ed6a08dbb39e68dcaeeac28d76f6a2aac3a37db03becb7f9bb678c01"), looks := true }, kinds := [], alts := [], laidByText := true, laidKinds := [.data, .handle, .pinned], laidTests := true, laidLooks := .later }
def SchemaPlacesCardSaid : Prop := Claim7.holds Tryz.pinned (.plain (OpenSpec.ofChange schemaPlacesSpec)) schemaPlacesCard

/-- THE TIED CARD OF 'pawllaw14.AgreeParses'. -/
def agreeParsesCard : Claim7 := { stood := { row := agreeParsesRow, standIns := [], harness := (true, "8c047c56ed6a08dbb39e68dcaeeac28d76f6a2aac3a37db03becb7f9bb678c01"), looks := true }, kinds := [], alts := [], laidByText := true, laidKinds := [.data, .handle, .pinned], laidTests := true, laidLooks := .later }
def AgreeParsesCardSaid : Prop := Claim7.holds Tryz.pinned (.plain (OpenSpec.ofChange agreeParsesSpec)) agreeParsesCard

/-- THE TIED CARD OF 'pawllaw10.EnvelopeReads'. -/
def envelopeReadsCard : Claim7 := { stood := { row := envelopeReadsRow, standIns := [], harness := (true, "8c047c56ed6a08dbb39e68dcaeeac28d76f6a2aac3a37db03becb7f9bb678c01"), looks := true }, kinds := [], alts := [], laidByText := true, laidKinds := [.data, .handle, .pinned], laidTests := true, laidLooks := .later }
def EnvelopeReadsCardSaid : Prop := Claim7.holds Tryz.pinned (.plain (OpenSpec.ofChange envelopeReadsSpec)) envelopeReadsCard

/-- THE SECOND FORM's CARD OF 'pawllaw08.SchemaDecodes'. -/
def schemaDecodesUptoCard : Claim7 := { stood := { row := schemaDecodesUptoRow, standIns := [], harness := (true, "8c047c56ed6a08dbb39e68dcaeeac28d76f6a2aac3a37db03becb7f9bb678c01"), looks := true }, kinds := [], alts := [], laidByText := true, laidKinds := [.data, .handle, .pinned], laidTests := true, laidLooks := .later }
def SchemaDecodesUptoCardSaid : Prop := Claim7.holds Tryz.pinned (.plain (OpenSpec.upto schemaDecodesSpec)) schemaDecodesUptoCard

/-- THE SECOND FORM's CARD OF 'pawllaw14.AgreePacks'. -/
def agreePacksUptoCard : Claim7 := { stood := { row := agreePacksUptoRow, standIns := [], harness := (true, "8c047c56ed6a08dbb39e68dcaeeac28d76f6a2aac3a37db03becb7f9bb678c01"), looks := true }, kinds := [], alts := [], laidByText := true, laidKinds := [.data, .pinned], laidTests := true, laidLooks := .later }
def AgreePacksUptoCardSaid : Prop := Claim7.holds Tryz.pinned (.plain (OpenSpec.upto agreePacksSpec)) agreePacksUptoCard

/-- THE SECOND FORM's CARD OF 'pawllaw10.EnvelopeHeaders'. -/
def envelopeHeadersUptoCard : Claim7 := { stood := { row := envelopeHeadersUptoRow, standIns := [], harness := (true, "8c047c56ed6a08dbb39e68dcaeeac28d76f6a2aac3a37db03becb7f9bb678c01"), looks := true }, kinds := [], alts := [], laidByText := true, laidKinds := [.data, .pinned], laidTests := true, laidLooks := .later }
def EnvelopeHeadersUptoCardSaid : Prop := Claim7.holds Tryz.pinned (.plain (OpenSpec.upto envelopeHeadersSpec)) envelopeHeadersUptoCard

/-- THE SECOND FORM's CARD OF 'pawllaw08.SchemaExact'. -/
def schemaExactUptoCard : Claim7 := { stood := { row := schemaExactUptoRow, standIns := [], harness := (true, "8c047c56ed6a08dbb39e68dcaeeac28d76f6a2aac3a37db03becb7f9bb678c01"), looks := true }, kinds := [], alts := [], laidByText := true, laidKinds := [.data, .handle, .pinned], laidTests := true, laidLooks := .later }
def SchemaExactUptoCardSaid : Prop := Claim7.holds Tryz.pinned (.plain (OpenSpec.upto schemaExactSpec)) schemaExactUptoCard

/-- THE SECOND FORM's CARD OF 'pawllaw08.SchemaPlaces'. -/
def schemaPlacesUptoCard : Claim7 := { stood := { row := schemaPlacesUptoRow, standIns := [], harness := (true, "8c047c56ed6a08dbb39e68dcaeeac28d76f6a2aac3a37db03becb7f9bb678c01"), looks := true }, kinds := [], alts := [], laidByText := true, laidKinds := [.data, .handle, .pinned], laidTests := true, laidLooks := .later }
def SchemaPlacesUptoCardSaid : Prop := Claim7.holds Tryz.pinned (.plain (OpenSpec.upto schemaPlacesSpec)) schemaPlacesUptoCard

/-- THE SECOND FORM's CARD OF 'pawllaw14.AgreeParses'. -/
def agreeParsesUptoCard : Claim7 := { stood := { row := agreeParsesUptoRow, standIns := [], harness := (true, "8c047c56ed6a08dbb39e68dcaeeac28d76f6a2aac3a37db03becb7f9bb678c01"), looks := true }, kinds := [], alts := [], laidByText := true, laidKinds := [.data, .handle, .pinned], laidTests := true, laidLooks := .later }
def AgreeParsesUptoCardSaid : Prop := Claim7.holds Tryz.pinned (.plain (OpenSpec.upto agreeParsesSpec)) agreeParsesUptoCard

/-- THE SECOND FORM's CARD OF 'pawllaw10.EnvelopeReads'. -/
def envelopeReadsUptoCard : Claim7 := { stood := { row := envelopeReadsUptoRow, standIns := [], harness := (true, "8c047c56ed6a08dbb39e68dcaeeac28d76f6a2aac3a37db03becb7f9bb678c01"), looks := true }, kinds := [], alts := [], laidByText := true, laidKinds := [.data, .handle, .pinned], laidTests := true, laidLooks := .later }
def EnvelopeReadsUptoCardSaid : Prop := Claim7.holds Tryz.pinned (.plain (OpenSpec.upto envelopeReadsSpec)) envelopeReadsUptoCard
end Rows
end Go.Proofs.YtinngljphjdpoaaGreatDoor
