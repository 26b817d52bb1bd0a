/-
  DERIVED. GIVEN WITH THE SEED: THE CARDS: each row of YtcjdokngpmnkjaaGreatDoorRows.lean that lists a variable, with what it lists TIED to the program's text (the seventh form; the later family's looks); each row that meets fmt, with fmt's text TOLD by the authors' own Lean function (tested against real Go, not proved from fmt's source: count such statements apart). THE CARD IS WHAT COUNTS. Prove the row's statement (the work); the ties are given (YtcjdokngpmnkjaaGreatDoorTie.lean); close each card by the builder's one call (the guide's Derived/Test/ToyasCard.lean, 'card_holds'). Laid BY PROGRAM, IN A SANDBOX (cutbox-door.mjs). By AI agents, Wed Nov 11 2026. No macro, syntax, notation, axiom, sorry.
-/
import Derived.Test.YtcjdokngpmnkjaaGreatDoorRows
import GoSem.ClaimSeven
namespace Go.Proofs.YtcjdokngpmnkjaaGreatDoor
namespace Rows

/-- THE TIED CARD OF 'laws.FnExactWayBits'. -/
def fnExactWayBitsCard : Claim7 := { stood := { row := fnExactWayBitsRow, standIns := [], harness := (true, "982a15cb2871f8728d2d3a51de9e43532ec2a8051370a2e4c7146add53360a08"), looks := false }, kinds := [], alts := [], laidByText := true, laidKinds := [.data, .widerDeep], laidTests := true, laidLooks := .later }
def FnExactWayBitsCardSaid : Prop := Claim7.holds Tryz.pinned (.plain (OpenSpec.ofChange fnExactWayBitsSpec)) fnExactWayBitsCard

/-- THE TIED CARD OF 'laws.FnWayNorm'. -/
def fnWayNormCard : Claim7 := { stood := { row := fnWayNormRow, standIns := [], harness := (true, "982a15cb2871f8728d2d3a51de9e43532ec2a8051370a2e4c7146add53360a08"), looks := false }, kinds := [], alts := [], laidByText := true, laidKinds := [.widerDeep, .data, .widerDeep], laidTests := true, laidLooks := .later }
def FnWayNormCardSaid : Prop := Claim7.holds Tryz.pinned (.plain (OpenSpec.ofChange fnWayNormSpec)) fnWayNormCard

/-- THE TIED CARD OF 'laws.FnExactWayPlain'. -/
def fnExactWayPlainCard : Claim7 := { stood := { row := fnExactWayPlainRow, standIns := [], harness := (true, "982a15cb2871f8728d2d3a51de9e43532ec2a8051370a2e4c7146add53360a08"), looks := false }, kinds := [], alts := [], laidByText := true, laidKinds := [.widerDeep, .data, .widerDeep], laidTests := true, laidLooks := .later }
def FnExactWayPlainCardSaid : Prop := Claim7.holds Tryz.pinned (.plain (OpenSpec.ofChange fnExactWayPlainSpec)) fnExactWayPlainCard

/-- THE TIED CARD OF 'laws.FnExactWayDown'. -/
def fnExactWayDownCard : Claim7 := { stood := { row := fnExactWayDownRow, standIns := [], harness := (true, "982a15cb2871f8728d2d3a51de9e43532ec2a8051370a2e4c7146add53360a08"), looks := false }, kinds := [], alts := [], laidByText := true, laidKinds := [.widerDeep, .data, .widerDeep], laidTests := true, laidLooks := .later }
def FnExactWayDownCardSaid : Prop := Claim7.holds Tryz.pinned (.plain (OpenSpec.ofChange fnExactWayDownSpec)) fnExactWayDownCard

/-- THE TIED CARD OF 'laws.FnWayRungs'. -/
def fnWayRungsCard : Claim7 := { stood := { row := fnWayRungsRow, standIns := [], harness := (true, "982a15cb2871f8728d2d3a51de9e43532ec2a8051370a2e4c7146add53360a08"), looks := false }, kinds := [], alts := [], laidByText := true, laidKinds := [.widerDeep, .data, .widerDeep], laidTests := true, laidLooks := .later }
def FnWayRungsCardSaid : Prop := Claim7.holds Tryz.pinned (.plain (OpenSpec.ofChange fnWayRungsSpec)) fnWayRungsCard

/-- THE TIED CARD OF 'laws.FnWayTop'. -/
def fnWayTopCard : Claim7 := { stood := { row := fnWayTopRow, standIns := [], harness := (true, "982a15cb2871f8728d2d3a51de9e43532ec2a8051370a2e4c7146add53360a08"), looks := false }, kinds := [], alts := [], laidByText := true, laidKinds := [.widerDeep, .data, .widerDeep], laidTests := true, laidLooks := .later }
def FnWayTopCardSaid : Prop := Claim7.holds Tryz.pinned (.plain (OpenSpec.ofChange fnWayTopSpec)) fnWayTopCard

/-- THE TIED CARD OF 'laws.FnBackTop'. -/
def fnBackTopCard : Claim7 := { stood := { row := fnBackTopRow, standIns := [], harness := (true, "982a15cb2871f8728d2d3a51de9e43532ec2a8051370a2e4c7146add53360a08"), looks := false }, kinds := [], alts := [], laidByText := true, laidKinds := [.widerDeep, .data, .widerDeep], laidTests := true, laidLooks := .later }
def FnBackTopCardSaid : Prop := Claim7.holds Tryz.pinned (.plain (OpenSpec.ofChange fnBackTopSpec)) fnBackTopCard

/-- THE TIED CARD OF 'laws.FnBackNet'. -/
def fnBackNetCard : Claim7 := { stood := { row := fnBackNetRow, standIns := [], harness := (true, "982a15cb2871f8728d2d3a51de9e43532ec2a8051370a2e4c7146add53360a08"), looks := false }, kinds := [], alts := [], laidByText := true, laidKinds := [.widerDeep, .data, .widerDeep], laidTests := true, laidLooks := .later }
def FnBackNetCardSaid : Prop := Claim7.holds Tryz.pinned (.plain (OpenSpec.ofChange fnBackNetSpec)) fnBackNetCard

/-- THE TIED CARD OF 'laws.FnExactBackUp'. -/
def fnExactBackUpCard : Claim7 := { stood := { row := fnExactBackUpRow, standIns := [], harness := (true, "982a15cb2871f8728d2d3a51de9e43532ec2a8051370a2e4c7146add53360a08"), looks := false }, kinds := [], alts := [], laidByText := true, laidKinds := [.data, .widerDeep], laidTests := true, laidLooks := .later }
def FnExactBackUpCardSaid : Prop := Claim7.holds Tryz.pinned (.plain (OpenSpec.ofChange fnExactBackUpSpec)) fnExactBackUpCard

/-- THE SECOND FORM's CARD OF 'laws.FnExactWayBits'. -/
def fnExactWayBitsUptoCard : Claim7 := { stood := { row := fnExactWayBitsUptoRow, standIns := [], harness := (true, "982a15cb2871f8728d2d3a51de9e43532ec2a8051370a2e4c7146add53360a08"), looks := false }, kinds := [], alts := [], laidByText := true, laidKinds := [.data, .widerDeep], laidTests := true, laidLooks := .later }
def FnExactWayBitsUptoCardSaid : Prop := Claim7.holds Tryz.pinned (.plain (OpenSpec.upto fnExactWayBitsSpec)) fnExactWayBitsUptoCard

/-- THE SECOND FORM's CARD OF 'laws.FnWayNorm'. -/
def fnWayNormUptoCard : Claim7 := { stood := { row := fnWayNormUptoRow, standIns := [], harness := (true, "982a15cb2871f8728d2d3a51de9e43532ec2a8051370a2e4c7146add53360a08"), looks := false }, kinds := [], alts := [], laidByText := true, laidKinds := [.widerDeep, .data, .widerDeep], laidTests := true, laidLooks := .later }
def FnWayNormUptoCardSaid : Prop := Claim7.holds Tryz.pinned (.plain (OpenSpec.upto fnWayNormSpec)) fnWayNormUptoCard

/-- THE SECOND FORM's CARD OF 'laws.FnExactWayPlain'. -/
def fnExactWayPlainUptoCard : Claim7 := { stood := { row := fnExactWayPlainUptoRow, standIns := [], harness := (true, "982a15cb2871f8728d2d3a51de9e43532ec2a8051370a2e4c7146add53360a08"), looks := false }, kinds := [], alts := [], laidByText := true, laidKinds := [.widerDeep, .data, .widerDeep], laidTests := true, laidLooks := .later }
def FnExactWayPlainUptoCardSaid : Prop := Claim7.holds Tryz.pinned (.plain (OpenSpec.upto fnExactWayPlainSpec)) fnExactWayPlainUptoCard

/-- THE SECOND FORM's CARD OF 'laws.FnExactWayDown'. -/
def fnExactWayDownUptoCard : Claim7 := { stood := { row := fnExactWayDownUptoRow, standIns := [], harness := (true, "982a15cb2871f8728d2d3a51de9e43532ec2a8051370a2e4c7146add53360a08"), looks := false }, kinds := [], alts := [], laidByText := true, laidKinds := [.widerDeep, .data, .widerDeep], laidTests := true, laidLooks := .later }
def FnExactWayDownUptoCardSaid : Prop := Claim7.holds Tryz.pinned (.plain (OpenSpec.upto fnExactWayDownSpec)) fnExactWayDownUptoCard

/-- THE SECOND FORM's CARD OF 'laws.FnWayRungs'. -/
def fnWayRungsUptoCard : Claim7 := { stood := { row := fnWayRungsUptoRow, standIns := [], harness := (true, "982a15cb2871f8728d2d3a51de9e43532ec2a8051370a2e4c7146add53360a08"), looks := false }, kinds := [], alts := [], laidByText := true, laidKinds := [.widerDeep, .data, .widerDeep], laidTests := true, laidLooks := .later }
def FnWayRungsUptoCardSaid : Prop := Claim7.holds Tryz.pinned (.plain (OpenSpec.upto fnWayRungsSpec)) fnWayRungsUptoCard

/-- THE SECOND FORM's CARD OF 'laws.FnWayTop'. -/
def fnWayTopUptoCard : Claim7 := { stood := { row := fnWayTopUptoRow, standIns := [], harness := (true, "982a15cb2871f8728d2d3a51de9e43532ec2a8051370a2e4c7146add53360a08"), looks := false }, kinds := [], alts := [], laidByText := true, laidKinds := [.widerDeep, .data, .widerDeep], laidTests := true, laidLooks := .later }
def FnWayTopUptoCardSaid : Prop := Claim7.holds Tryz.pinned (.plain (OpenSpec.upto fnWayTopSpec)) fnWayTopUptoCard

/-- THE SECOND FORM's CARD OF 'laws.FnBackTop'. -/
def fnBackTopUptoCard : Claim7 := { stood := { row := fnBackTopUptoRow, standIns := [], harness := (true, "982a15cb2871f8728d2d3a51de9e43532ec2a8051370a2e4c7146add53360a08"), looks := false }, kinds := [], alts := [], laidByText := true, laidKinds := [.widerDeep, .data, .widerDeep], laidTests := true, laidLooks := .later }
def FnBackTopUptoCardSaid : Prop := Claim7.holds Tryz.pinned (.plain (OpenSpec.upto fnBackTopSpec)) fnBackTopUptoCard

/-- THE SECOND FORM's CARD OF 'laws.FnBackNet'. -/
def fnBackNetUptoCard : Claim7 := { stood := { row := fnBackNetUptoRow, standIns := [], harness := (true, "982a15cb2871f8728d2d3a51de9e43532ec2a8051370a2e4c7146add53360a08"), looks := false }, kinds := [], alts := [], laidByText := true, laidKinds := [.widerDeep, .data, .widerDeep], laidTests := true, laidLooks := .later }
def FnBackNetUptoCardSaid : Prop := Claim7.holds Tryz.pinned (.plain (OpenSpec.upto fnBackNetSpec)) fnBackNetUptoCard

/-- THE SECOND FORM's CARD OF 'laws.FnExactBackUp'. -/
def fnExactBackUpUptoCard : Claim7 := { stood := { row := fnExactBackUpUptoRow, standIns := [], harness := (true, "982a15cb2871f8728d2d3a51de9e43532ec2a8051370a2e4c7146add53360a08"), looks := false }, kinds := [], alts := [], laidByText := true, laidKinds := [.data, .widerDeep], laidTests := true, laidLooks := .later }
def FnExactBackUpUptoCardSaid : Prop := Claim7.holds Tryz.pinned (.plain (OpenSpec.upto fnExactBackUpSpec)) fnExactBackUpUptoCard
end Rows
end Go.Proofs.YtcjdokngpmnkjaaGreatDoor
