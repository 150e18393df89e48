/-
  DERIVED. GIVEN WITH THE SEED: THE CARDS: each row of YtjlhicopinhiaaaDoorRows.lean that lists a variable, with what it lists TIED to the program's text (the seventh form; the later family's looks); each row that meets fmt, with fmt's text TOLD by the authors' own Lean function (tested against real Go, not proved from fmt's source: count such statements apart). THE CARD IS WHAT COUNTS. Prove the row's statement (the work); the ties are given (YtjlhicopinhiaaaDoorTie.lean); close each card by the builder's one call (the guide's Derived/Test/ToyasCard.lean, 'card_holds'). Laid BY PROGRAM, IN A SANDBOX (cutbox-door.mjs). By AI agents, Wed Nov 11 2026. No macro, syntax, notation, axiom, sorry.
-/
import Derived.Test.YtjlhicopinhiaaaDoorRows
import GoSem.ClaimSeven
namespace Go.Proofs.YtjlhicopinhiaaaDoor
namespace Rows

/-- THE TIED CARD OF 'pawllaw14.AgreeSafeties'. -/
def agreeSafetiesCard : Claim7 := { stood := { row := agreeSafetiesRow, standIns := [], harness := (true, "0cb7c9894b2cb6b72c94d183084a705571f075da1b3654486630d885d48c2c75"), looks := false }, kinds := [], alts := [], laidByText := true, laidKinds := [.data], laidTests := true, laidLooks := .later }
def AgreeSafetiesCardSaid : Prop := Claim7.holds Tryd.pinned (.plain (OpenSpec.ofChange agreeSafetiesSpec)) agreeSafetiesCard

/-- THE TIED CARD OF 'pawllaw14.AgreeNumber'. -/
def agreeNumberCard : Claim7 := { stood := { row := agreeNumberRow, standIns := [], harness := (true, "0cb7c9894b2cb6b72c94d183084a705571f075da1b3654486630d885d48c2c75"), looks := false }, kinds := [], alts := [], laidByText := true, laidKinds := [.data], laidTests := true, laidLooks := .later }
def AgreeNumberCardSaid : Prop := Claim7.holds Tryd.pinned (.plain (OpenSpec.ofChange agreeNumberSpec)) agreeNumberCard

/-- THE TIED CARD OF 'pawllaw14.AgreeHalves'. -/
def agreeHalvesCard : Claim7 := { stood := { row := agreeHalvesRow, standIns := [], harness := (true, "0cb7c9894b2cb6b72c94d183084a705571f075da1b3654486630d885d48c2c75"), looks := false }, kinds := [], alts := [], laidByText := true, laidKinds := [.data], laidTests := true, laidLooks := .later }
def AgreeHalvesCardSaid : Prop := Claim7.holds Tryd.pinned (.plain (OpenSpec.ofChange agreeHalvesSpec)) agreeHalvesCard

/-- THE SECOND FORM's CARD OF 'pawllaw14.AgreeSafeties'. -/
def agreeSafetiesUptoCard : Claim7 := { stood := { row := agreeSafetiesUptoRow, standIns := [], harness := (true, "0cb7c9894b2cb6b72c94d183084a705571f075da1b3654486630d885d48c2c75"), looks := false }, kinds := [], alts := [], laidByText := true, laidKinds := [.data], laidTests := true, laidLooks := .later }
def AgreeSafetiesUptoCardSaid : Prop := Claim7.holds Tryd.pinned (.plain (OpenSpec.upto agreeSafetiesSpec)) agreeSafetiesUptoCard

/-- THE SECOND FORM's CARD OF 'pawllaw14.AgreeNumber'. -/
def agreeNumberUptoCard : Claim7 := { stood := { row := agreeNumberUptoRow, standIns := [], harness := (true, "0cb7c9894b2cb6b72c94d183084a705571f075da1b3654486630d885d48c2c75"), looks := false }, kinds := [], alts := [], laidByText := true, laidKinds := [.data], laidTests := true, laidLooks := .later }
def AgreeNumberUptoCardSaid : Prop := Claim7.holds Tryd.pinned (.plain (OpenSpec.upto agreeNumberSpec)) agreeNumberUptoCard

/-- THE SECOND FORM's CARD OF 'pawllaw14.AgreeHalves'. -/
def agreeHalvesUptoCard : Claim7 := { stood := { row := agreeHalvesUptoRow, standIns := [], harness := (true, "0cb7c9894b2cb6b72c94d183084a705571f075da1b3654486630d885d48c2c75"), looks := false }, kinds := [], alts := [], laidByText := true, laidKinds := [.data], laidTests := true, laidLooks := .later }
def AgreeHalvesUptoCardSaid : Prop := Claim7.holds Tryd.pinned (.plain (OpenSpec.upto agreeHalvesSpec)) agreeHalvesUptoCard
end Rows
end Go.Proofs.YtjlhicopinhiaaaDoor
