/-
  DERIVED. GIVEN WITH THE SEED: THE CARDS: each row of YtfpkfcfiihfopaaDoorRows.lean that lists a variable, with what it lists TIED to the program's text (the seventh form; the later family's looks); each row that meets fmt, with fmt's text TOLD by the authors' own Lean function (tested against real Go, not proved from fmt's source: count such statements apart). THE CARD IS WHAT COUNTS. Prove the row's statement (the work); the ties are given (YtfpkfcfiihfopaaDoorTie.lean); close each card by the builder's one call (the guide's Derived/Test/ToyasCard.lean, 'card_holds'). Laid BY PROGRAM, IN A SANDBOX (cutbox-door.mjs). By AI agents, Wed Nov 11 2026. No macro, syntax, notation, axiom, sorry.
-/
import Derived.Test.YtfpkfcfiihfopaaDoorRows
import GoSem.ClaimSeven
namespace Go.Proofs.YtfpkfcfiihfopaaDoor
namespace Rows

/-- THE TIED CARD OF 'laws.FnExactNormNet'. -/
def fnExactNormNetCard : Claim7 := { stood := { row := fnExactNormNetRow, standIns := [], harness := (true, "56f5c6dcac7a8cc535e3e15751dca4ea3f0dd0c4eef7c43b1f7d093a23780049"), looks := false }, kinds := [], alts := [], laidByText := true, laidKinds := [.data, .widerDeep], laidTests := true, laidLooks := .later }
def FnExactNormNetCardSaid : Prop := Claim7.holds Tryd.pinned (.plain (OpenSpec.ofChange fnExactNormNetSpec)) fnExactNormNetCard

/-- THE TIED CARD OF 'laws.FnExactSureRungs'. -/
def fnExactSureRungsCard : Claim7 := { stood := { row := fnExactSureRungsRow, standIns := [], harness := (true, "56f5c6dcac7a8cc535e3e15751dca4ea3f0dd0c4eef7c43b1f7d093a23780049"), looks := false }, kinds := [], alts := [], laidByText := true, laidKinds := [.data, .widerDeep], laidTests := true, laidLooks := .later }
def FnExactSureRungsCardSaid : Prop := Claim7.holds Tryd.pinned (.plain (OpenSpec.ofChange fnExactSureRungsSpec)) fnExactSureRungsCard

/-- THE TIED CARD OF 'laws.FnExactBackNet'. -/
def fnExactBackNetCard : Claim7 := { stood := { row := fnExactBackNetRow, standIns := [], harness := (true, "56f5c6dcac7a8cc535e3e15751dca4ea3f0dd0c4eef7c43b1f7d093a23780049"), looks := false }, kinds := [], alts := [], laidByText := true, laidKinds := [.data, .widerDeep], laidTests := true, laidLooks := .later }
def FnExactBackNetCardSaid : Prop := Claim7.holds Tryd.pinned (.plain (OpenSpec.ofChange fnExactBackNetSpec)) fnExactBackNetCard

/-- THE TIED CARD OF 'laws.FnExactPeepTurn'. -/
def fnExactPeepTurnCard : Claim7 := { stood := { row := fnExactPeepTurnRow, standIns := [], harness := (true, "56f5c6dcac7a8cc535e3e15751dca4ea3f0dd0c4eef7c43b1f7d093a23780049"), looks := false }, kinds := [], alts := [], laidByText := true, laidKinds := [.data, .widerDeep, .data], laidTests := true, laidLooks := .later }
def FnExactPeepTurnCardSaid : Prop := Claim7.holds Tryd.pinned (.plain (OpenSpec.ofChange fnExactPeepTurnSpec)) fnExactPeepTurnCard

/-- THE TIED CARD OF 'laws.FnPeepReal'. -/
def fnPeepRealCard : Claim7 := { stood := { row := fnPeepRealRow, standIns := [], harness := (true, "56f5c6dcac7a8cc535e3e15751dca4ea3f0dd0c4eef7c43b1f7d093a23780049"), looks := false }, kinds := [], alts := [], laidByText := true, laidKinds := [.widerDeep, .data, .widerDeep, .data], laidTests := true, laidLooks := .later }
def FnPeepRealCardSaid : Prop := Claim7.holds Tryd.pinned (.plain (OpenSpec.ofChange fnPeepRealSpec)) fnPeepRealCard

/-- THE TIED CARD OF 'laws.FnPeepTurn'. -/
def fnPeepTurnCard : Claim7 := { stood := { row := fnPeepTurnRow, standIns := [], harness := (true, "56f5c6dcac7a8cc535e3e15751dca4ea3f0dd0c4eef7c43b1f7d093a23780049"), looks := false }, kinds := [], alts := [], laidByText := true, laidKinds := [.data, .widerDeep, .data], laidTests := true, laidLooks := .later }
def FnPeepTurnCardSaid : Prop := Claim7.holds Tryd.pinned (.plain (OpenSpec.ofChange fnPeepTurnSpec)) fnPeepTurnCard

/-- THE SECOND FORM's CARD OF 'laws.FnExactNormNet'. -/
def fnExactNormNetUptoCard : Claim7 := { stood := { row := fnExactNormNetUptoRow, standIns := [], harness := (true, "56f5c6dcac7a8cc535e3e15751dca4ea3f0dd0c4eef7c43b1f7d093a23780049"), looks := false }, kinds := [], alts := [], laidByText := true, laidKinds := [.data, .widerDeep], laidTests := true, laidLooks := .later }
def FnExactNormNetUptoCardSaid : Prop := Claim7.holds Tryd.pinned (.plain (OpenSpec.upto fnExactNormNetSpec)) fnExactNormNetUptoCard

/-- THE SECOND FORM's CARD OF 'laws.FnExactSureRungs'. -/
def fnExactSureRungsUptoCard : Claim7 := { stood := { row := fnExactSureRungsUptoRow, standIns := [], harness := (true, "56f5c6dcac7a8cc535e3e15751dca4ea3f0dd0c4eef7c43b1f7d093a23780049"), looks := false }, kinds := [], alts := [], laidByText := true, laidKinds := [.data, .widerDeep], laidTests := true, laidLooks := .later }
def FnExactSureRungsUptoCardSaid : Prop := Claim7.holds Tryd.pinned (.plain (OpenSpec.upto fnExactSureRungsSpec)) fnExactSureRungsUptoCard

/-- THE SECOND FORM's CARD OF 'laws.FnExactBackNet'. -/
def fnExactBackNetUptoCard : Claim7 := { stood := { row := fnExactBackNetUptoRow, standIns := [], harness := (true, "56f5c6dcac7a8cc535e3e15751dca4ea3f0dd0c4eef7c43b1f7d093a23780049"), looks := false }, kinds := [], alts := [], laidByText := true, laidKinds := [.data, .widerDeep], laidTests := true, laidLooks := .later }
def FnExactBackNetUptoCardSaid : Prop := Claim7.holds Tryd.pinned (.plain (OpenSpec.upto fnExactBackNetSpec)) fnExactBackNetUptoCard

/-- THE SECOND FORM's CARD OF 'laws.FnExactPeepTurn'. -/
def fnExactPeepTurnUptoCard : Claim7 := { stood := { row := fnExactPeepTurnUptoRow, standIns := [], harness := (true, "56f5c6dcac7a8cc535e3e15751dca4ea3f0dd0c4eef7c43b1f7d093a23780049"), looks := false }, kinds := [], alts := [], laidByText := true, laidKinds := [.data, .widerDeep, .data], laidTests := true, laidLooks := .later }
def FnExactPeepTurnUptoCardSaid : Prop := Claim7.holds Tryd.pinned (.plain (OpenSpec.upto fnExactPeepTurnSpec)) fnExactPeepTurnUptoCard

/-- THE SECOND FORM's CARD OF 'laws.FnPeepReal'. -/
def fnPeepRealUptoCard : Claim7 := { stood := { row := fnPeepRealUptoRow, standIns := [], harness := (true, "56f5c6dcac7a8cc535e3e15751dca4ea3f0dd0c4eef7c43b1f7d093a23780049"), looks := false }, kinds := [], alts := [], laidByText := true, laidKinds := [.widerDeep, .data, .widerDeep, .data], laidTests := true, laidLooks := .later }
def FnPeepRealUptoCardSaid : Prop := Claim7.holds Tryd.pinned (.plain (OpenSpec.upto fnPeepRealSpec)) fnPeepRealUptoCard

/-- THE SECOND FORM's CARD OF 'laws.FnPeepTurn'. -/
def fnPeepTurnUptoCard : Claim7 := { stood := { row := fnPeepTurnUptoRow, standIns := [], harness := (true, "56f5c6dcac7a8cc535e3e15751dca4ea3f0dd0c4eef7c43b1f7d093a23780049"), looks := false }, kinds := [], alts := [], laidByText := true, laidKinds := [.data, .widerDeep, .data], laidTests := true, laidLooks := .later }
def FnPeepTurnUptoCardSaid : Prop := Claim7.holds Tryd.pinned (.plain (OpenSpec.upto fnPeepTurnSpec)) fnPeepTurnUptoCard
end Rows
end Go.Proofs.YtfpkfcfiihfopaaDoor
