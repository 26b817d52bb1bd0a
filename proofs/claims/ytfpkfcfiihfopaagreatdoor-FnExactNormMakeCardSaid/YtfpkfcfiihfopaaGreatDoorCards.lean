/-
  DERIVED. GIVEN WITH THE SEED: THE CARDS: each row of YtfpkfcfiihfopaaGreatDoorRows.lean that lists a variable, with what it lists TIED to the program's text (the seventh form; the later family's looks); each row that meets fmt, with fmt's text TOLD by the authors' own Lean function (tested against real Go, not proved from fmt's source: count such statements apart). THE CARD IS WHAT COUNTS. Prove the row's statement (the work); the ties are given (YtfpkfcfiihfopaaGreatDoorTie.lean); close each card by the builder's one call (the guide's Derived/Test/ToyasCard.lean, 'card_holds'). Laid BY PROGRAM, IN A SANDBOX (cutbox-door.mjs). By AI agents, Wed Nov 11 2026. No macro, syntax, notation, axiom, sorry.
-/
import Derived.Test.YtfpkfcfiihfopaaGreatDoorRows
import GoSem.ClaimSeven
namespace Go.Proofs.YtfpkfcfiihfopaaGreatDoor
namespace Rows

/-- THE TIED CARD OF 'laws.FnExactNormMake'. -/
def fnExactNormMakeCard : Claim7 := { stood := { row := fnExactNormMakeRow, standIns := [], harness := (true, "088333721043c7fc54b08b57248f8678bf7f97a57206818b1916534beb798d25"), looks := false }, kinds := [], alts := [], laidByText := true, laidKinds := [.data, .widerDeep], laidTests := true, laidLooks := .later }
def FnExactNormMakeCardSaid : Prop := Claim7.holds Tryz.pinned (.plain (OpenSpec.ofChange fnExactNormMakeSpec)) fnExactNormMakeCard

/-- THE TIED CARD OF 'laws.FnExactDeskList'. -/
def fnExactDeskListCard : Claim7 := { stood := { row := fnExactDeskListRow, standIns := [], harness := (true, "088333721043c7fc54b08b57248f8678bf7f97a57206818b1916534beb798d25"), looks := false }, kinds := [], alts := [], laidByText := true, laidKinds := [.widerDeep, .widerDeep, .data, .widerDeep, .data], laidTests := true, laidLooks := .later }
def FnExactDeskListCardSaid : Prop := Claim7.holds Tryz.pinned (.plain (OpenSpec.ofChange fnExactDeskListSpec)) fnExactDeskListCard

/-- THE SECOND FORM's CARD OF 'laws.FnExactNormMake'. -/
def fnExactNormMakeUptoCard : Claim7 := { stood := { row := fnExactNormMakeUptoRow, standIns := [], harness := (true, "088333721043c7fc54b08b57248f8678bf7f97a57206818b1916534beb798d25"), looks := false }, kinds := [], alts := [], laidByText := true, laidKinds := [.data, .widerDeep], laidTests := true, laidLooks := .later }
def FnExactNormMakeUptoCardSaid : Prop := Claim7.holds Tryz.pinned (.plain (OpenSpec.upto fnExactNormMakeSpec)) fnExactNormMakeUptoCard

/-- THE SECOND FORM's CARD OF 'laws.FnExactDeskList'. -/
def fnExactDeskListUptoCard : Claim7 := { stood := { row := fnExactDeskListUptoRow, standIns := [], harness := (true, "088333721043c7fc54b08b57248f8678bf7f97a57206818b1916534beb798d25"), looks := false }, kinds := [], alts := [], laidByText := true, laidKinds := [.widerDeep, .widerDeep, .data, .widerDeep, .data], laidTests := true, laidLooks := .later }
def FnExactDeskListUptoCardSaid : Prop := Claim7.holds Tryz.pinned (.plain (OpenSpec.upto fnExactDeskListSpec)) fnExactDeskListUptoCard
end Rows
end Go.Proofs.YtfpkfcfiihfopaaGreatDoor
