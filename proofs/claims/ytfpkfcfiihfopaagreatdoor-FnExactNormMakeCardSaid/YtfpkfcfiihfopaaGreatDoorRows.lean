/-
  NARROWER THAN 'FOR EVERY INPUT', by the rows' own cells (each row's printed sentence says how): FnExactNormMake: loops, laid · FnExactDeskList: loops, laid.
  DERIVED. THE GIVEN ROWS OF THIS SEAT. 2 by the template 'for every input the law returns true; each argument reads behind the call as it read before'; 0 by the template 'total and deterministic' (their statements: YtfpkfcfiihfopaaGreatDoorTotals.lean).
  GIVEN WITH THE SEED: the statements are not yours to turn. If you find one false, say at which input.
  Laid BY PROGRAM, IN A SANDBOX (cutbox-rows.mjs): the forced cells as the released guide's own fill.sh prints them over the translation 754e4b9b27a04b9e… (all of the seat's roots in one cut). By AI agents, Wed Nov 11 2026. No macro, syntax, notation, axiom, sorry.
-/
import Derived.Test.YtfpkfcfiihfopaaGreatDoorChecked
import GoSem.Claim
import GoSem.ClaimJoined
import GoSem.ClaimMapViews
import Derived.JoinedTies
import Derived.KernelRfl
namespace Go.Proofs.YtfpkfcfiihfopaaGreatDoor
/- THE CELL 'sum', in the pinned program and in every row, IS THE sha256 OF THE DUMP (.gsa) THAT YtfpkfcfiihfopaaGreatDoorProg.lean LOADS. Nothing in Lean hashes anything: it is a label: what it is worth is what the hold of that sum in a sandbox is worth. -/
noncomputable def Tryz.pinned : Pinned := { name := "ytfpkfcfiihfopaagreatdoor", sum := "754e4b9b27a04b9eaa849c6c5f1029e32ba97c47ecc83cdae1a1d7b41421df13", checked := Tryz.checked }
namespace Rows
def none {H : Type} : Left H := { results := [], args := [] }

/- WHAT THE LISTED PACKAGE-LEVEL VARIABLES READ AS WHEN THE CALL BEGINS. Each datum BY PROGRAM (the guide's laid-datum.mjs) off the statement by which the dump's own 'gosem.cut.vars' lays the variable. In a bare row this is a premise. The card (YtfpkfcfiihfopaaGreatDoorCards.lean) ties it to the program's text. -/
def laid_loop_example_stile_impl_devSizes {H : Type} : DataW H := .slice [.lit (.int .i64 0), .lit (.int .i64 32), .lit (.int .i64 32), .lit (.int .i64 64), .lit (.int .i64 16), .lit (.int .i64 32), .lit (.int .i64 5), .lit (.int .i64 16), .lit (.int .i64 16), .lit (.int .i64 32), .lit (.int .i64 16)] []
def laid_loop_example_stile_impl_devWords {H : Type} : DataW H := .slice [.lit (.string [110, 97, 110]), .lit (.string [105, 110, 102]), .lit (.string [45, 105, 110, 102]), .lit (.string [45, 48, 46, 48])] []
def laid_loop_example_stile_impl_and {H : Type} : DataW H := .agg [.lit (.int .i64 2), .agg [.lit (.int .i64 0), .nil], .nil]
def laid_loop_example_stile_impl_once {H : Type} : DataW H := .slice [.lit (.int .i64 21), .lit (.int .i64 22), .lit (.int .i64 23), .lit (.int .i64 25), .lit (.int .i64 30), .lit (.int .i64 36), .lit (.int .i64 37)] []
def laid_loop_example_stile_impl_cmpFlips {H : Type} : DataW H := .slice [.lit (.int .i64 0), .lit (.int .i64 5), .lit (.int .i64 6), .lit (.int .i64 4), .lit (.int .i64 3), .lit (.int .i64 1), .lit (.int .i64 2)] []

/-- 'laws.FnExactNormMake': WHATEVER THE INPUT: true; the input reads as it did. -/
def fnExactNormMakeSpec : ChangeSpec := { name := "fnExactNormMake", vars := ["loop.example/stile/impl.devWords", "loop.example/stile/impl.devSizes"], fn := fun _ => fun
  | [d, g1, g2] => { results := [.lit (.bool true)], args := [d], vars := [g1, g2] }
  | _ => none }
def fnExactNormMakeRow : OpenClaim := { program := "ytfpkfcfiihfopaagreatdoor", sum := "754e4b9b27a04b9eaa849c6c5f1029e32ba97c47ecc83cdae1a1d7b41421df13", func := "loop.example/stile/laws.FnExactNormMake", spec := "fnExactNormMake", unfollowed := true, recurses := true, named := ["loop.example/stile/impl.devWords", "loop.example/stile/impl.devSizes"], loops := true, apart := false, laid := [("loop.example/stile/impl.devSizes", laid_loop_example_stile_impl_devSizes), ("loop.example/stile/impl.devWords", laid_loop_example_stile_impl_devWords)] }
def FnExactNormMakeSaid : Prop := fnExactNormMakeRow.holds Tryz.pinned (OpenSpec.ofChange fnExactNormMakeSpec)

/-- ITS FALSE NEIGHBOUR: 'it returns false'. Refute it at one input. -/
def fnExactNormMakeWrong : ChangeSpec := { name := "fnExactNormMake", vars := ["loop.example/stile/impl.devWords", "loop.example/stile/impl.devSizes"], fn := fun _ => fun
  | [d, g1, g2] => { results := [.lit (.bool false)], args := [d], vars := [g1, g2] }
  | _ => none }
def FnExactNormMakeWrongFalsely : Prop := fnExactNormMakeRow.holds Tryz.pinned (OpenSpec.ofChange fnExactNormMakeWrong)

/-- 'laws.FnExactDeskList': WHATEVER THE INPUT: true; the input reads as it did. -/
def fnExactDeskListSpec : ChangeSpec := { name := "fnExactDeskList", vars := ["loop.example/stile/impl.devWords", "loop.example/stile/impl.devSizes", "loop.example/stile/impl.and", "loop.example/stile/impl.once", "loop.example/stile/impl.cmpFlips"], fn := fun _ => fun
  | [d1, d2, g1, g2, g3, g4, g5] => { results := [.lit (.bool true)], args := [d1, d2], vars := [g1, g2, g3, g4, g5] }
  | _ => none }
def fnExactDeskListRow : OpenClaim := { program := "ytfpkfcfiihfopaagreatdoor", sum := "754e4b9b27a04b9eaa849c6c5f1029e32ba97c47ecc83cdae1a1d7b41421df13", func := "loop.example/stile/laws.FnExactDeskList", spec := "fnExactDeskList", unfollowed := true, recurses := true, named := ["loop.example/stile/impl.devWords", "loop.example/stile/impl.devSizes", "loop.example/stile/impl.and", "loop.example/stile/impl.once", "loop.example/stile/impl.cmpFlips"], loops := true, apart := false, laid := [("loop.example/stile/impl.and", laid_loop_example_stile_impl_and), ("loop.example/stile/impl.once", laid_loop_example_stile_impl_once), ("loop.example/stile/impl.devSizes", laid_loop_example_stile_impl_devSizes), ("loop.example/stile/impl.devWords", laid_loop_example_stile_impl_devWords), ("loop.example/stile/impl.cmpFlips", laid_loop_example_stile_impl_cmpFlips)] }
def FnExactDeskListSaid : Prop := fnExactDeskListRow.holds Tryz.pinned (OpenSpec.ofChange fnExactDeskListSpec)

/-- ITS FALSE NEIGHBOUR: 'it returns false'. Refute it at one input. -/
def fnExactDeskListWrong : ChangeSpec := { name := "fnExactDeskList", vars := ["loop.example/stile/impl.devWords", "loop.example/stile/impl.devSizes", "loop.example/stile/impl.and", "loop.example/stile/impl.once", "loop.example/stile/impl.cmpFlips"], fn := fun _ => fun
  | [d1, d2, g1, g2, g3, g4, g5] => { results := [.lit (.bool false)], args := [d1, d2], vars := [g1, g2, g3, g4, g5] }
  | _ => none }
def FnExactDeskListWrongFalsely : Prop := fnExactDeskListRow.holds Tryz.pinned (OpenSpec.ofChange fnExactDeskListWrong)

/- THE SECOND FORM. 'bulk': how many values and letters a reading holds, each counted each time it is reached (what is shared counts as often as it is met; a slice's spare places count too). A statement '..UptoSaid' is the law's where the arguments, and the package variables that the reading takes, are together of bulk at most 1048576: NARROWER than '..Said'. Prove '..Said' where nothing that the law and all that it calls make is longer than what came in: it says more and counts as full. Else prove '..UptoSaid'. A law counts once. -/
mutual
def uptoBulk {H : Type} : DataW H → Nat
  | .lit (.string bytes) => bytes.length + 1
  | .lit _ => 1
  | .nil => 1
  | .ptr d => uptoBulk d + 1
  | .slice elems spare => uptoBulkAll elems + uptoBulkAll spare + 1
  | .agg parts => uptoBulkAll parts + 1
  | .iface _ d => uptoBulk d + 1
  | .map entries => uptoBulkEntries entries + 1
  | .held _ => 1
def uptoBulkAll {H : Type} : List (DataW H) → Nat
  | [] => 0
  | d :: r => uptoBulk d + uptoBulkAll r
def uptoBulkEntries {H : Type} : List (Lit × DataW H) → Nat
  | [] => 0
  | x :: r => uptoBulkEntry x + uptoBulkEntries r
def uptoBulkEntry {H : Type} : Lit × DataW H → Nat
  | (.string bytes, d) => bytes.length + uptoBulk d + 1
  | (_, d) => uptoBulk d + 1
 end
def uptoSmall : (H : Type) → List (DataW H) → Bool := fun _ ds => decide (uptoBulkAll ds ≤ 1048576)
def OpenSpec.upto (s : _root_.Go.ChangeSpec) : _root_.Go.OpenSpec := { _root_.Go.OpenSpec.ofChange s with cond := some uptoSmall }

/-- 'laws.FnExactNormMake', WHERE WHAT IT READS IS OF BULK AT MOST 1048576: true; the input reads as it did. -/
def fnExactNormMakeUptoRow : OpenClaim := { program := "ytfpkfcfiihfopaagreatdoor", sum := "754e4b9b27a04b9eaa849c6c5f1029e32ba97c47ecc83cdae1a1d7b41421df13", func := "loop.example/stile/laws.FnExactNormMake", spec := "fnExactNormMake", unfollowed := true, recurses := true, named := ["loop.example/stile/impl.devWords", "loop.example/stile/impl.devSizes"], loops := true, apart := false, laid := [("loop.example/stile/impl.devSizes", laid_loop_example_stile_impl_devSizes), ("loop.example/stile/impl.devWords", laid_loop_example_stile_impl_devWords)], narrowed := true }
def FnExactNormMakeUptoSaid : Prop := fnExactNormMakeUptoRow.holds Tryz.pinned (OpenSpec.upto fnExactNormMakeSpec)

/-- 'laws.FnExactDeskList', WHERE WHAT IT READS IS OF BULK AT MOST 1048576: true; the input reads as it did. -/
def fnExactDeskListUptoRow : OpenClaim := { program := "ytfpkfcfiihfopaagreatdoor", sum := "754e4b9b27a04b9eaa849c6c5f1029e32ba97c47ecc83cdae1a1d7b41421df13", func := "loop.example/stile/laws.FnExactDeskList", spec := "fnExactDeskList", unfollowed := true, recurses := true, named := ["loop.example/stile/impl.devWords", "loop.example/stile/impl.devSizes", "loop.example/stile/impl.and", "loop.example/stile/impl.once", "loop.example/stile/impl.cmpFlips"], loops := true, apart := false, laid := [("loop.example/stile/impl.and", laid_loop_example_stile_impl_and), ("loop.example/stile/impl.once", laid_loop_example_stile_impl_once), ("loop.example/stile/impl.devSizes", laid_loop_example_stile_impl_devSizes), ("loop.example/stile/impl.devWords", laid_loop_example_stile_impl_devWords), ("loop.example/stile/impl.cmpFlips", laid_loop_example_stile_impl_cmpFlips)], narrowed := true }
def FnExactDeskListUptoSaid : Prop := fnExactDeskListUptoRow.holds Tryz.pinned (OpenSpec.upto fnExactDeskListSpec)

end Rows
end Go.Proofs.YtfpkfcfiihfopaaGreatDoor
