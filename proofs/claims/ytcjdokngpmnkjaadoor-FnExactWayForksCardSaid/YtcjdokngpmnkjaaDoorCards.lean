/-
  DERIVED. GIVEN WITH THE SEED: THE CARDS: each row of YtcjdokngpmnkjaaDoorRows.lean that lists a variable, with what it lists TIED to the program's text (the seventh form; the later family's looks); each row that meets fmt, with fmt's text TOLD by the authors' own Lean function (tested against real Go, not proved from fmt's source: count such statements apart). THE CARD IS WHAT COUNTS. Prove the row's statement (the work); the ties are given (YtcjdokngpmnkjaaDoorTie.lean); close each card by the builder's one call (the guide's Derived/Test/ToyasCard.lean, 'card_holds'). Laid BY PROGRAM, IN A SANDBOX (cutbox-door.mjs). By AI agents, Wed Nov 11 2026. No macro, syntax, notation, axiom, sorry.
-/
import Derived.Test.YtcjdokngpmnkjaaDoorRows
import GoSem.ClaimSeven
namespace Go.Proofs.YtcjdokngpmnkjaaDoor
namespace Rows

/-- THE TIED CARD OF 'laws.FnExactWayForks'. -/
def fnExactWayForksCard : Claim7 := { stood := { row := fnExactWayForksRow, standIns := [], harness := (true, "f5d334771ba45bb4f0bdbc2b560531f97647d297098653e67664f39318201fc4"), looks := false }, kinds := [], alts := [], laidByText := true, laidKinds := [.data, .widerDeep], laidTests := true, laidLooks := .later }
def FnExactWayForksCardSaid : Prop := Claim7.holds Tryd.pinned (.plain (OpenSpec.ofChange fnExactWayForksSpec)) fnExactWayForksCard

/-- THE TIED CARD OF 'laws.FnExactPeepOnce'. -/
def fnExactPeepOnceCard : Claim7 := { stood := { row := fnExactPeepOnceRow, standIns := [], harness := (true, "f5d334771ba45bb4f0bdbc2b560531f97647d297098653e67664f39318201fc4"), looks := false }, kinds := [], alts := [], laidByText := true, laidKinds := [.widerDeep, .data, .widerDeep, .data], laidTests := true, laidLooks := .later }
def FnExactPeepOnceCardSaid : Prop := Claim7.holds Tryd.pinned (.plain (OpenSpec.ofChange fnExactPeepOnceSpec)) fnExactPeepOnceCard

/-- THE TIED CARD OF 'laws.FnExactPeepAll'. -/
def fnExactPeepAllCard : Claim7 := { stood := { row := fnExactPeepAllRow, standIns := [], harness := (true, "f5d334771ba45bb4f0bdbc2b560531f97647d297098653e67664f39318201fc4"), looks := false }, kinds := [], alts := [], laidByText := true, laidKinds := [.widerDeep, .data, .widerDeep, .data], laidTests := true, laidLooks := .later }
def FnExactPeepAllCardSaid : Prop := Claim7.holds Tryd.pinned (.plain (OpenSpec.ofChange fnExactPeepAllSpec)) fnExactPeepAllCard

/-- THE SECOND FORM's CARD OF 'laws.FnExactWayForks'. -/
def fnExactWayForksUptoCard : Claim7 := { stood := { row := fnExactWayForksUptoRow, standIns := [], harness := (true, "f5d334771ba45bb4f0bdbc2b560531f97647d297098653e67664f39318201fc4"), looks := false }, kinds := [], alts := [], laidByText := true, laidKinds := [.data, .widerDeep], laidTests := true, laidLooks := .later }
def FnExactWayForksUptoCardSaid : Prop := Claim7.holds Tryd.pinned (.plain (OpenSpec.upto fnExactWayForksSpec)) fnExactWayForksUptoCard

/-- THE SECOND FORM's CARD OF 'laws.FnExactPeepOnce'. -/
def fnExactPeepOnceUptoCard : Claim7 := { stood := { row := fnExactPeepOnceUptoRow, standIns := [], harness := (true, "f5d334771ba45bb4f0bdbc2b560531f97647d297098653e67664f39318201fc4"), looks := false }, kinds := [], alts := [], laidByText := true, laidKinds := [.widerDeep, .data, .widerDeep, .data], laidTests := true, laidLooks := .later }
def FnExactPeepOnceUptoCardSaid : Prop := Claim7.holds Tryd.pinned (.plain (OpenSpec.upto fnExactPeepOnceSpec)) fnExactPeepOnceUptoCard

/-- THE SECOND FORM's CARD OF 'laws.FnExactPeepAll'. -/
def fnExactPeepAllUptoCard : Claim7 := { stood := { row := fnExactPeepAllUptoRow, standIns := [], harness := (true, "f5d334771ba45bb4f0bdbc2b560531f97647d297098653e67664f39318201fc4"), looks := false }, kinds := [], alts := [], laidByText := true, laidKinds := [.widerDeep, .data, .widerDeep, .data], laidTests := true, laidLooks := .later }
def FnExactPeepAllUptoCardSaid : Prop := Claim7.holds Tryd.pinned (.plain (OpenSpec.upto fnExactPeepAllSpec)) fnExactPeepAllUptoCard
end Rows
end Go.Proofs.YtcjdokngpmnkjaaDoor
