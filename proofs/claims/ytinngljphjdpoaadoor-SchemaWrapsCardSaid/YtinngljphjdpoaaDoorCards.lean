/-
  DERIVED. GIVEN WITH THE SEED: THE CARDS: each row of YtinngljphjdpoaaDoorRows.lean that lists a variable, with what it lists TIED to the program's text (the seventh form; the later family's looks); each row that meets fmt, with fmt's text TOLD by the authors' own Lean function (tested against real Go, not proved from fmt's source: count such statements apart). THE CARD IS WHAT COUNTS. Prove the row's statement (the work); the ties are given (YtinngljphjdpoaaDoorTie.lean); close each card by the builder's one call (the guide's Derived/Test/ToyasCard.lean, 'card_holds'). Laid BY PROGRAM, IN A SANDBOX (cutbox-door.mjs). By AI agents, Wed Nov 11 2026. No macro, syntax, notation, axiom, sorry.
-/
import Derived.Test.YtinngljphjdpoaaDoorRows
import GoSem.ClaimSeven
namespace Go.Proofs.YtinngljphjdpoaaDoor
namespace Rows

/-- THE TIED CARD OF 'pawllaw08.SchemaBack'. -/
def schemaBackCard : Claim7 := { stood := { row := schemaBackRow, standIns := [], harness := (true, "67e3877050def9208ac7001504e00b48e419f2177dff69066fdb72051daca755"), looks := true }, kinds := [], alts := [], laidByText := true, laidKinds := [.data, .pinned], laidTests := true, laidLooks := .later }
def SchemaBackCardSaid : Prop := Claim7.holds Tryd.pinned (.plain (OpenSpec.ofChange schemaBackSpec)) schemaBackCard

/-- THE TIED CARD OF 'pawllaw08.SchemaOnly'. -/
def schemaOnlyCard : Claim7 := { stood := { row := schemaOnlyRow, standIns := [], harness := (true, "67e3877050def9208ac7001504e00b48e419f2177dff69066fdb72051daca755"), looks := true }, kinds := [], alts := [], laidByText := true, laidKinds := [.data, .pinned], laidTests := true, laidLooks := .later }
def SchemaOnlyCardSaid : Prop := Claim7.holds Tryd.pinned (.plain (OpenSpec.ofChange schemaOnlySpec)) schemaOnlyCard

/-- THE TIED CARD OF 'pawllaw08.SchemaWhole'. -/
def schemaWholeCard : Claim7 := { stood := { row := schemaWholeRow, standIns := [], harness := (true, "67e3877050def9208ac7001504e00b48e419f2177dff69066fdb72051daca755"), looks := true }, kinds := [], alts := [], laidByText := true, laidKinds := [.data, .pinned], laidTests := true, laidLooks := .later }
def SchemaWholeCardSaid : Prop := Claim7.holds Tryd.pinned (.plain (OpenSpec.ofChange schemaWholeSpec)) schemaWholeCard

/-- THE TIED CARD OF 'pawllaw08.SchemaOne'. -/
def schemaOneCard : Claim7 := { stood := { row := schemaOneRow, standIns := [], harness := (true, "67e3877050def9208ac7001504e00b48e419f2177dff69066fdb72051daca755"), looks := true }, kinds := [], alts := [], laidByText := true, laidKinds := [.data, .pinned], laidTests := true, laidLooks := .later }
def SchemaOneCardSaid : Prop := Claim7.holds Tryd.pinned (.plain (OpenSpec.ofChange schemaOneSpec)) schemaOneCard

/-- THE TIED CARD OF 'pawllaw08.SchemaWraps'. -/
def schemaWrapsCard : Claim7 := { stood := { row := schemaWrapsRow, standIns := [], harness := (true, "67e3877050def9208ac7001504e00b48e419f2177dff69066fdb72051daca755"), looks := true }, kinds := [], alts := [], laidByText := true, laidKinds := [.data, .pinned], laidTests := true, laidLooks := .later }
def SchemaWrapsCardSaid : Prop := Claim7.holds Tryd.pinned (.plain (OpenSpec.ofChange schemaWrapsSpec)) schemaWrapsCard

/-- THE TIED CARD OF 'pawllaw08.SchemaReasons'. -/
def schemaReasonsCard : Claim7 := { stood := { row := schemaReasonsRow, standIns := [], harness := (true, "67e3877050def9208ac7001504e00b48e419f2177dff69066fdb72051daca755"), looks := true }, kinds := [], alts := [], laidByText := true, laidKinds := [.data, .pinned], laidTests := true, laidLooks := .later }
def SchemaReasonsCardSaid : Prop := Claim7.holds Tryd.pinned (.plain (OpenSpec.ofChange schemaReasonsSpec)) schemaReasonsCard

/-- THE TIED CARD OF 'pawllaw14.AgreePacked'. -/
def agreePackedCard : Claim7 := { stood := { row := agreePackedRow, standIns := [], harness := (true, "67e3877050def9208ac7001504e00b48e419f2177dff69066fdb72051daca755"), looks := true }, kinds := [], alts := [], laidByText := true, laidKinds := [.data, .pinned], laidTests := true, laidLooks := .later }
def AgreePackedCardSaid : Prop := Claim7.holds Tryd.pinned (.plain (OpenSpec.ofChange agreePackedSpec)) agreePackedCard

/-- THE TIED CARD OF 'pawllaw14.AgreeOnly'. -/
def agreeOnlyCard : Claim7 := { stood := { row := agreeOnlyRow, standIns := [], harness := (true, "67e3877050def9208ac7001504e00b48e419f2177dff69066fdb72051daca755"), looks := true }, kinds := [], alts := [], laidByText := true, laidKinds := [.data, .pinned], laidTests := true, laidLooks := .later }
def AgreeOnlyCardSaid : Prop := Claim7.holds Tryd.pinned (.plain (OpenSpec.ofChange agreeOnlySpec)) agreeOnlyCard

/-- THE SECOND FORM's CARD OF 'pawllaw08.SchemaBack'. -/
def schemaBackUptoCard : Claim7 := { stood := { row := schemaBackUptoRow, standIns := [], harness := (true, "67e3877050def9208ac7001504e00b48e419f2177dff69066fdb72051daca755"), looks := true }, kinds := [], alts := [], laidByText := true, laidKinds := [.data, .pinned], laidTests := true, laidLooks := .later }
def SchemaBackUptoCardSaid : Prop := Claim7.holds Tryd.pinned (.plain (OpenSpec.upto schemaBackSpec)) schemaBackUptoCard

/-- THE SECOND FORM's CARD OF 'pawllaw08.SchemaOnly'. -/
def schemaOnlyUptoCard : Claim7 := { stood := { row := schemaOnlyUptoRow, standIns := [], harness := (true, "67e3877050def9208ac7001504e00b48e419f2177dff69066fdb72051daca755"), looks := true }, kinds := [], alts := [], laidByText := true, laidKinds := [.data, .pinned], laidTests := true, laidLooks := .later }
def SchemaOnlyUptoCardSaid : Prop := Claim7.holds Tryd.pinned (.plain (OpenSpec.upto schemaOnlySpec)) schemaOnlyUptoCard

/-- THE SECOND FORM's CARD OF 'pawllaw08.SchemaWhole'. -/
def schemaWholeUptoCard : Claim7 := { stood := { row := schemaWholeUptoRow, standIns := [], harness := (true, "67e3877050def9208ac7001504e00b48e419f2177dff69066fdb72051daca755"), looks := true }, kinds := [], alts := [], laidByText := true, laidKinds := [.data, .pinned], laidTests := true, laidLooks := .later }
def SchemaWholeUptoCardSaid : Prop := Claim7.holds Tryd.pinned (.plain (OpenSpec.upto schemaWholeSpec)) schemaWholeUptoCard

/-- THE SECOND FORM's CARD OF 'pawllaw08.SchemaOne'. -/
def schemaOneUptoCard : Claim7 := { stood := { row := schemaOneUptoRow, standIns := [], harness := (true, "67e3877050def9208ac7001504e00b48e419f2177dff69066fdb72051daca755"), looks := true }, kinds := [], alts := [], laidByText := true, laidKinds := [.data, .pinned], laidTests := true, laidLooks := .later }
def SchemaOneUptoCardSaid : Prop := Claim7.holds Tryd.pinned (.plain (OpenSpec.upto schemaOneSpec)) schemaOneUptoCard

/-- THE SECOND FORM's CARD OF 'pawllaw08.SchemaWraps'. -/
def schemaWrapsUptoCard : Claim7 := { stood := { row := schemaWrapsUptoRow, standIns := [], harness := (true, "67e3877050def9208ac7001504e00b48e419f2177dff69066fdb72051daca755"), looks := true }, kinds := [], alts := [], laidByText := true, laidKinds := [.data, .pinned], laidTests := true, laidLooks := .later }
def SchemaWrapsUptoCardSaid : Prop := Claim7.holds Tryd.pinned (.plain (OpenSpec.upto schemaWrapsSpec)) schemaWrapsUptoCard

/-- THE SECOND FORM's CARD OF 'pawllaw08.SchemaReasons'. -/
def schemaReasonsUptoCard : Claim7 := { stood := { row := schemaReasonsUptoRow, standIns := [], harness := (true, "67e3877050def9208ac7001504e00b48e419f2177dff69066fdb72051daca755"), looks := true }, kinds := [], alts := [], laidByText := true, laidKinds := [.data, .pinned], laidTests := true, laidLooks := .later }
def SchemaReasonsUptoCardSaid : Prop := Claim7.holds Tryd.pinned (.plain (OpenSpec.upto schemaReasonsSpec)) schemaReasonsUptoCard

/-- THE SECOND FORM's CARD OF 'pawllaw14.AgreePacked'. -/
def agreePackedUptoCard : Claim7 := { stood := { row := agreePackedUptoRow, standIns := [], harness := (true, "67e3877050def9208ac7001504e00b48e419f2177dff69066fdb72051daca755"), looks := true }, kinds := [], alts := [], laidByText := true, laidKinds := [.data, .pinned], laidTests := true, laidLooks := .later }
def AgreePackedUptoCardSaid : Prop := Claim7.holds Tryd.pinned (.plain (OpenSpec.upto agreePackedSpec)) agreePackedUptoCard

/-- THE SECOND FORM's CARD OF 'pawllaw14.AgreeOnly'. -/
def agreeOnlyUptoCard : Claim7 := { stood := { row := agreeOnlyUptoRow, standIns := [], harness := (true, "67e3877050def9208ac7001504e00b48e419f2177dff69066fdb72051daca755"), looks := true }, kinds := [], alts := [], laidByText := true, laidKinds := [.data, .pinned], laidTests := true, laidLooks := .later }
def AgreeOnlyUptoCardSaid : Prop := Claim7.holds Tryd.pinned (.plain (OpenSpec.upto agreeOnlySpec)) agreeOnlyUptoCard
end Rows
end Go.Proofs.YtinngljphjdpoaaDoor
