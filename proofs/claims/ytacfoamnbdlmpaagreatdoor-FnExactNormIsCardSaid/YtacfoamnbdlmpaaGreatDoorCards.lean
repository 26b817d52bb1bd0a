/-
  DERIVED. GIVEN WITH THE SEED: THE CARDS: each row of YtacfoamnbdlmpaaGreatDoorRows.lean that lists a variable, with what it lists TIED to the program's text (the seventh form; the later family's looks); each row that meets fmt, with fmt's text TOLD by the authors' own Lean function (tested against real Go, not proved from fmt's source: count such statements apart). THE CARD IS WHAT COUNTS. Prove the row's statement (the work); the ties are given (YtacfoamnbdlmpaaGreatDoorTie.lean); close each card by the builder's one call (the guide's Derived/Test/ToyasCard.lean, 'card_holds'). Laid BY PROGRAM, IN A SANDBOX (cutbox-door.mjs). By AI agents, Wed Nov 11 2026. No macro, syntax, notation, axiom, sorry.
-/
import Derived.Test.YtacfoamnbdlmpaaGreatDoorRows
import GoSem.ClaimSeven
namespace Go.Proofs.YtacfoamnbdlmpaaGreatDoor
namespace Rows

/-- THE TIED CARD OF 'laws.FnNormShape'. -/
def fnNormShapeCard : Claim7 := { stood := { row := fnNormShapeRow, standIns := [], harness := (true, "a6cc24365cf363c4f7705b3fc6b54ba3a15537c317c22669a838ae8930aa4082"), looks := false }, kinds := [], alts := [], laidByText := true, laidKinds := [.data, .widerDeep], laidTests := true, laidLooks := .later }
def FnNormShapeCardSaid : Prop := Claim7.holds Tryz.pinned (.plain (OpenSpec.ofChange fnNormShapeSpec)) fnNormShapeCard

/-- THE TIED CARD OF 'laws.FnNormOnce'. -/
def fnNormOnceCard : Claim7 := { stood := { row := fnNormOnceRow, standIns := [], harness := (true, "a6cc24365cf363c4f7705b3fc6b54ba3a15537c317c22669a838ae8930aa4082"), looks := false }, kinds := [], alts := [], laidByText := true, laidKinds := [.data, .widerDeep], laidTests := true, laidLooks := .later }
def FnNormOnceCardSaid : Prop := Claim7.holds Tryz.pinned (.plain (OpenSpec.ofChange fnNormOnceSpec)) fnNormOnceCard

/-- THE TIED CARD OF 'laws.FnExactNormIs'. -/
def fnExactNormIsCard : Claim7 := { stood := { row := fnExactNormIsRow, standIns := [], harness := (true, "a6cc24365cf363c4f7705b3fc6b54ba3a15537c317c22669a838ae8930aa4082"), looks := false }, kinds := [], alts := [], laidByText := true, laidKinds := [.data, .widerDeep], laidTests := true, laidLooks := .later }
def FnExactNormIsCardSaid : Prop := Claim7.holds Tryz.pinned (.plain (OpenSpec.ofChange fnExactNormIsSpec)) fnExactNormIsCard

/-- THE TIED CARD OF 'laws.FnExactNormMake'. -/
def fnExactNormMakeCard : Claim7 := { stood := { row := fnExactNormMakeRow, standIns := [], harness := (true, "a6cc24365cf363c4f7705b3fc6b54ba3a15537c317c22669a838ae8930aa4082"), looks := false }, kinds := [], alts := [], laidByText := true, laidKinds := [.data, .widerDeep], laidTests := true, laidLooks := .later }
def FnExactNormMakeCardSaid : Prop := Claim7.holds Tryz.pinned (.plain (OpenSpec.ofChange fnExactNormMakeSpec)) fnExactNormMakeCard

/-- THE SECOND FORM's CARD OF 'laws.FnNormShape'. -/
def fnNormShapeUptoCard : Claim7 := { stood := { row := fnNormShapeUptoRow, standIns := [], harness := (true, "a6cc24365cf363c4f7705b3fc6b54ba3a15537c317c22669a838ae8930aa4082"), looks := false }, kinds := [], alts := [], laidByText := true, laidKinds := [.data, .widerDeep], laidTests := true, laidLooks := .later }
def FnNormShapeUptoCardSaid : Prop := Claim7.holds Tryz.pinned (.plain (OpenSpec.upto fnNormShapeSpec)) fnNormShapeUptoCard

/-- THE SECOND FORM's CARD OF 'laws.FnNormOnce'. -/
def fnNormOnceUptoCard : Claim7 := { stood := { row := fnNormOnceUptoRow, standIns := [], harness := (true, "a6cc24365cf363c4f7705b3fc6b54ba3a15537c317c22669a838ae8930aa4082"), looks := false }, kinds := [], alts := [], laidByText := true, laidKinds := [.data, .widerDeep], laidTests := true, laidLooks := .later }
def FnNormOnceUptoCardSaid : Prop := Claim7.holds Tryz.pinned (.plain (OpenSpec.upto fnNormOnceSpec)) fnNormOnceUptoCard

/-- THE SECOND FORM's CARD OF 'laws.FnExactNormIs'. -/
def fnExactNormIsUptoCard : Claim7 := { stood := { row := fnExactNormIsUptoRow, standIns := [], harness := (true, "a6cc24365cf363c4f7705b3fc6b54ba3a15537c317c22669a838ae8930aa4082"), looks := false }, kinds := [], alts := [], laidByText := true, laidKinds := [.data, .widerDeep], laidTests := true, laidLooks := .later }
def FnExactNormIsUptoCardSaid : Prop := Claim7.holds Tryz.pinned (.plain (OpenSpec.upto fnExactNormIsSpec)) fnExactNormIsUptoCard

/-- THE SECOND FORM's CARD OF 'laws.FnExactNormMake'. -/
def fnExactNormMakeUptoCard : Claim7 := { stood := { row := fnExactNormMakeUptoRow, standIns := [], harness := (true, "a6cc24365cf363c4f7705b3fc6b54ba3a15537c317c22669a838ae8930aa4082"), looks := false }, kinds := [], alts := [], laidByText := true, laidKinds := [.data, .widerDeep], laidTests := true, laidLooks := .later }
def FnExactNormMakeUptoCardSaid : Prop := Claim7.holds Tryz.pinned (.plain (OpenSpec.upto fnExactNormMakeSpec)) fnExactNormMakeUptoCard
end Rows
end Go.Proofs.YtacfoamnbdlmpaaGreatDoor
