/-
  NARROWER THAN 'FOR EVERY INPUT', by the rows' own cells (each row's printed sentence says how): FnExactNormNet: loops, laid · FnExactSureRungs: laid · FnExactBackNet: laid · FnExactPeepTurn: laid · FnPeepReal: laid · FnPeepTurn: laid.
  DERIVED. THE GIVEN ROWS OF THIS SEAT. 6 by the template 'for every input the law returns true; each argument reads behind the call as it read before'; 0 by the template 'total and deterministic' (their statements: YtfpkfcfiihfopaaDoorTotals.lean).
  GIVEN WITH THE SEED: the statements are not yours to turn. If you find one false, say at which input.
  Laid BY PROGRAM, IN A SANDBOX (cutbox-rows.mjs): the forced cells as the released guide's own fill.sh prints them over the translation f5d4e12d52335a66… (all of the seat's roots in one cut). By AI agents, Wed Nov 11 2026. No macro, syntax, notation, axiom, sorry.
-/
import Derived.Test.YtfpkfcfiihfopaaDoorChecked
import GoSem.Claim
import GoSem.ClaimJoined
import GoSem.ClaimMapViews
import Derived.JoinedTies
import Derived.KernelRfl
namespace Go.Proofs.YtfpkfcfiihfopaaDoor
/- THE CELL 'sum', in the pinned program and in every row, IS THE sha256 OF THE DUMP (.gsa) THAT YtfpkfcfiihfopaaDoorProg.lean LOADS. Nothing in Lean hashes anything: it is a label: what it is worth is what the hold of that sum in a sandbox is worth. -/
noncomputable def Tryd.pinned : Pinned := { name := "ytfpkfcfiihfopaadoor", sum := "f5d4e12d52335a664aa6af31d4a5427b36027c13f514284c1cdbd6ba55cdc688", checked := Tryd.checked }
namespace Rows
def none {H : Type} : Left H := { results := [], args := [] }

/- WHAT THE LISTED PACKAGE-LEVEL VARIABLES READ AS WHEN THE CALL BEGINS. Each datum BY PROGRAM (the guide's laid-datum.mjs) off the statement by which the dump's own 'gosem.cut.vars' lays the variable. In a bare row this is a premise. The card (YtfpkfcfiihfopaaDoorCards.lean) ties it to the program's text. -/
def laid_loop_example_stile_impl_devSizes {H : Type} : DataW H := .slice [.lit (.int .i64 0), .lit (.int .i64 32), .lit (.int .i64 32), .lit (.int .i64 64), .lit (.int .i64 16), .lit (.int .i64 32), .lit (.int .i64 5), .lit (.int .i64 16), .lit (.int .i64 16), .lit (.int .i64 32), .lit (.int .i64 16)] []
def laid_loop_example_stile_impl_devWords {H : Type} : DataW H := .slice [.lit (.string [110, 97, 110]), .lit (.string [105, 110, 102]), .lit (.string [45, 105, 110, 102]), .lit (.string [45, 48, 46, 48])] []
def laid_loop_example_stile_impl_cmpFlips {H : Type} : DataW H := .slice [.lit (.int .i64 0), .lit (.int .i64 5), .lit (.int .i64 6), .lit (.int .i64 4), .lit (.int .i64 3), .lit (.int .i64 1), .lit (.int .i64 2)] []
def laid_loop_example_stile_impl_once {H : Type} : DataW H := .slice [.lit (.int .i64 21), .lit (.int .i64 22), .lit (.int .i64 23), .lit (.int .i64 25), .lit (.int .i64 30), .lit (.int .i64 36), .lit (.int .i64 37)] []

/-- 'laws.FnExactNormNet': WHATEVER THE INPUT: true; the input reads as it did. -/
def fnExactNormNetSpec : ChangeSpec := { name := "fnExactNormNet", vars := ["loop.example/stile/impl.devWords", "loop.example/stile/impl.devSizes"], fn := fun _ => fun
  | [d, g1, g2] => { results := [.lit (.bool true)], args := [d], vars := [g1, g2] }
  | _ => none }
def fnExactNormNetRow : OpenClaim := { program := "ytfpkfcfiihfopaadoor", sum := "f5d4e12d52335a664aa6af31d4a5427b36027c13f514284c1cdbd6ba55cdc688", func := "loop.example/stile/laws.FnExactNormNet", spec := "fnExactNormNet", unfollowed := true, recurses := true, named := ["loop.example/stile/impl.devWords", "loop.example/stile/impl.devSizes"], loops := true, apart := false, laid := [("loop.example/stile/impl.devSizes", laid_loop_example_stile_impl_devSizes), ("loop.example/stile/impl.devWords", laid_loop_example_stile_impl_devWords)] }
def FnExactNormNetSaid : Prop := fnExactNormNetRow.holds Tryd.pinned (OpenSpec.ofChange fnExactNormNetSpec)

/-- ITS FALSE NEIGHBOUR: 'it returns false'. Refute it at one input. -/
def fnExactNormNetWrong : ChangeSpec := { name := "fnExactNormNet", vars := ["loop.example/stile/impl.devWords", "loop.example/stile/impl.devSizes"], fn := fun _ => fun
  | [d, g1, g2] => { results := [.lit (.bool false)], args := [d], vars := [g1, g2] }
  | _ => none }
def FnExactNormNetWrongFalsely : Prop := fnExactNormNetRow.holds Tryd.pinned (OpenSpec.ofChange fnExactNormNetWrong)

/-- 'laws.FnExactSureRungs': WHATEVER THE INPUT: true; the input reads as it did. -/
def fnExactSureRungsSpec : ChangeSpec := { name := "fnExactSureRungs", vars := ["loop.example/stile/impl.devWords", "loop.example/stile/impl.devSizes"], fn := fun _ => fun
  | [d, g1, g2] => { results := [.lit (.bool true)], args := [d], vars := [g1, g2] }
  | _ => none }
def fnExactSureRungsRow : OpenClaim := { program := "ytfpkfcfiihfopaadoor", sum := "f5d4e12d52335a664aa6af31d4a5427b36027c13f514284c1cdbd6ba55cdc688", func := "loop.example/stile/laws.FnExactSureRungs", spec := "fnExactSureRungs", unfollowed := true, recurses := true, named := ["loop.example/stile/impl.devWords", "loop.example/stile/impl.devSizes"], apart := false, laid := [("loop.example/stile/impl.devSizes", laid_loop_example_stile_impl_devSizes), ("loop.example/stile/impl.devWords", laid_loop_example_stile_impl_devWords)] }
def FnExactSureRungsSaid : Prop := fnExactSureRungsRow.holds Tryd.pinned (OpenSpec.ofChange fnExactSureRungsSpec)

/-- ITS FALSE NEIGHBOUR: 'it returns false'. Refute it at one input. -/
def fnExactSureRungsWrong : ChangeSpec := { name := "fnExactSureRungs", vars := ["loop.example/stile/impl.devWords", "loop.example/stile/impl.devSizes"], fn := fun _ => fun
  | [d, g1, g2] => { results := [.lit (.bool false)], args := [d], vars := [g1, g2] }
  | _ => none }
def FnExactSureRungsWrongFalsely : Prop := fnExactSureRungsRow.holds Tryd.pinned (OpenSpec.ofChange fnExactSureRungsWrong)

/-- 'laws.FnExactBackNet': WHATEVER THE INPUT: true; the input reads as it did. -/
def fnExactBackNetSpec : ChangeSpec := { name := "fnExactBackNet", vars := ["loop.example/stile/impl.devWords", "loop.example/stile/impl.devSizes"], fn := fun _ => fun
  | [d, g1, g2] => { results := [.lit (.bool true)], args := [d], vars := [g1, g2] }
  | _ => none }
def fnExactBackNetRow : OpenClaim := { program := "ytfpkfcfiihfopaadoor", sum := "f5d4e12d52335a664aa6af31d4a5427b36027c13f514284c1cdbd6ba55cdc688", func := "loop.example/stile/laws.FnExactBackNet", spec := "fnExactBackNet", unfollowed := true, recurses := true, named := ["loop.example/stile/impl.devWords", "loop.example/stile/impl.devSizes"], apart := false, laid := [("loop.example/stile/impl.devSizes", laid_loop_example_stile_impl_devSizes), ("loop.example/stile/impl.devWords", laid_loop_example_stile_impl_devWords)] }
def FnExactBackNetSaid : Prop := fnExactBackNetRow.holds Tryd.pinned (OpenSpec.ofChange fnExactBackNetSpec)

/-- ITS FALSE NEIGHBOUR: 'it returns false'. Refute it at one input. -/
def fnExactBackNetWrong : ChangeSpec := { name := "fnExactBackNet", vars := ["loop.example/stile/impl.devWords", "loop.example/stile/impl.devSizes"], fn := fun _ => fun
  | [d, g1, g2] => { results := [.lit (.bool false)], args := [d], vars := [g1, g2] }
  | _ => none }
def FnExactBackNetWrongFalsely : Prop := fnExactBackNetRow.holds Tryd.pinned (OpenSpec.ofChange fnExactBackNetWrong)

/-- 'laws.FnExactPeepTurn': WHATEVER THE INPUT: true; the input reads as it did. -/
def fnExactPeepTurnSpec : ChangeSpec := { name := "fnExactPeepTurn", vars := ["loop.example/stile/impl.devWords", "loop.example/stile/impl.devSizes", "loop.example/stile/impl.cmpFlips"], fn := fun _ => fun
  | [d, g1, g2, g3] => { results := [.lit (.bool true)], args := [d], vars := [g1, g2, g3] }
  | _ => none }
def fnExactPeepTurnRow : OpenClaim := { program := "ytfpkfcfiihfopaadoor", sum := "f5d4e12d52335a664aa6af31d4a5427b36027c13f514284c1cdbd6ba55cdc688", func := "loop.example/stile/laws.FnExactPeepTurn", spec := "fnExactPeepTurn", unfollowed := true, recurses := true, named := ["loop.example/stile/impl.devWords", "loop.example/stile/impl.devSizes", "loop.example/stile/impl.cmpFlips"], apart := false, laid := [("loop.example/stile/impl.devSizes", laid_loop_example_stile_impl_devSizes), ("loop.example/stile/impl.devWords", laid_loop_example_stile_impl_devWords), ("loop.example/stile/impl.cmpFlips", laid_loop_example_stile_impl_cmpFlips)] }
def FnExactPeepTurnSaid : Prop := fnExactPeepTurnRow.holds Tryd.pinned (OpenSpec.ofChange fnExactPeepTurnSpec)

/-- ITS FALSE NEIGHBOUR: 'it returns false'. Refute it at one input. -/
def fnExactPeepTurnWrong : ChangeSpec := { name := "fnExactPeepTurn", vars := ["loop.example/stile/impl.devWords", "loop.example/stile/impl.devSizes", "loop.example/stile/impl.cmpFlips"], fn := fun _ => fun
  | [d, g1, g2, g3] => { results := [.lit (.bool false)], args := [d], vars := [g1, g2, g3] }
  | _ => none }
def FnExactPeepTurnWrongFalsely : Prop := fnExactPeepTurnRow.holds Tryd.pinned (OpenSpec.ofChange fnExactPeepTurnWrong)

/-- 'laws.FnPeepReal': WHATEVER THE INPUT: true; the input reads as it did. -/
def fnPeepRealSpec : ChangeSpec := { name := "fnPeepReal", vars := ["loop.example/stile/impl.devWords", "loop.example/stile/impl.devSizes", "loop.example/stile/impl.once", "loop.example/stile/impl.cmpFlips"], fn := fun _ => fun
  | [d, g1, g2, g3, g4] => { results := [.lit (.bool true)], args := [d], vars := [g1, g2, g3, g4] }
  | _ => none }
def fnPeepRealRow : OpenClaim := { program := "ytfpkfcfiihfopaadoor", sum := "f5d4e12d52335a664aa6af31d4a5427b36027c13f514284c1cdbd6ba55cdc688", func := "loop.example/stile/laws.FnPeepReal", spec := "fnPeepReal", unfollowed := true, recurses := true, named := ["loop.example/stile/impl.devWords", "loop.example/stile/impl.devSizes", "loop.example/stile/impl.once", "loop.example/stile/impl.cmpFlips"], apart := false, laid := [("loop.example/stile/impl.once", laid_loop_example_stile_impl_once), ("loop.example/stile/impl.devSizes", laid_loop_example_stile_impl_devSizes), ("loop.example/stile/impl.devWords", laid_loop_example_stile_impl_devWords), ("loop.example/stile/impl.cmpFlips", laid_loop_example_stile_impl_cmpFlips)] }
def FnPeepRealSaid : Prop := fnPeepRealRow.holds Tryd.pinned (OpenSpec.ofChange fnPeepRealSpec)

/-- ITS FALSE NEIGHBOUR: 'it returns false'. Refute it at one input. -/
def fnPeepRealWrong : ChangeSpec := { name := "fnPeepReal", vars := ["loop.example/stile/impl.devWords", "loop.example/stile/impl.devSizes", "loop.example/stile/impl.once", "loop.example/stile/impl.cmpFlips"], fn := fun _ => fun
  | [d, g1, g2, g3, g4] => { results := [.lit (.bool false)], args := [d], vars := [g1, g2, g3, g4] }
  | _ => none }
def FnPeepRealWrongFalsely : Prop := fnPeepRealRow.holds Tryd.pinned (OpenSpec.ofChange fnPeepRealWrong)

/-- 'laws.FnPeepTurn': WHATEVER THE INPUT: true; the input reads as it did. -/
def fnPeepTurnSpec : ChangeSpec := { name := "fnPeepTurn", vars := ["loop.example/stile/impl.devWords", "loop.example/stile/impl.devSizes", "loop.example/stile/impl.cmpFlips"], fn := fun _ => fun
  | [d1, d2, g1, g2, g3] => { results := [.lit (.bool true)], args := [d1, d2], vars := [g1, g2, g3] }
  | _ => none }
def fnPeepTurnRow : OpenClaim := { program := "ytfpkfcfiihfopaadoor", sum := "f5d4e12d52335a664aa6af31d4a5427b36027c13f514284c1cdbd6ba55cdc688", func := "loop.example/stile/laws.FnPeepTurn", spec := "fnPeepTurn", inPlace := ["math.Float64frombits", "math.Float64bits"], unfollowed := true, recurses := true, named := ["loop.example/stile/impl.devWords", "loop.example/stile/impl.devSizes", "loop.example/stile/impl.cmpFlips"], apart := false, laid := [("loop.example/stile/impl.devSizes", laid_loop_example_stile_impl_devSizes), ("loop.example/stile/impl.devWords", laid_loop_example_stile_impl_devWords), ("loop.example/stile/impl.cmpFlips", laid_loop_example_stile_impl_cmpFlips)] }
def FnPeepTurnSaid : Prop := fnPeepTurnRow.holds Tryd.pinned (OpenSpec.ofChange fnPeepTurnSpec)

/-- ITS FALSE NEIGHBOUR: 'it returns false'. Refute it at one input. -/
def fnPeepTurnWrong : ChangeSpec := { name := "fnPeepTurn", vars := ["loop.example/stile/impl.devWords", "loop.example/stile/impl.devSizes", "loop.example/stile/impl.cmpFlips"], fn := fun _ => fun
  | [d1, d2, g1, g2, g3] => { results := [.lit (.bool false)], args := [d1, d2], vars := [g1, g2, g3] }
  | _ => none }
def FnPeepTurnWrongFalsely : Prop := fnPeepTurnRow.holds Tryd.pinned (OpenSpec.ofChange fnPeepTurnWrong)

/- THE SECOND FORM. 'bulk': how many values and letters a reading holds, each counted each time it is reached (what is shared counts as often as it is met; a slice's spare places count too). A statement '..UptoSaid' is the law's where the arguments, and the package variables that the reading takes, are together of bulk at most 1048576: NARROWER than '..Said'. Prove '..Said' where nothing that the law and all that it calls make is longer than what came in: it says more and counts as full. Else prove '..UptoSaid'. A law counts once. -/
mutual
def uptoBulk {H : Type} : DataW H → Nat
  | .lit (.string bytes) => bytes.length + 1
  | .lit _ => 1
  | .nil => 1
  | .ptr d => uptoBulk d + 1
  | .slice elems spare => uptoBulkAll elems + uptoBulkAll spare + 1
  | .agg parts => uptoBulkAll parts + 1
  | .iface _ d => uptoBulk d + 1
  | .map entries => uptoBulkEntries entries + 1
  | .held _ => 1
def uptoBulkAll {H : Type} : List (DataW H) → Nat
  | [] => 0
  | d :: r => uptoBulk d + uptoBulkAll r
def uptoBulkEntries {H : Type} : List (Lit × DataW H) → Nat
  | [] => 0
  | x :: r => uptoBulkEntry x + uptoBulkEntries r
def uptoBulkEntry {H : Type} : Lit × DataW H → Nat
  | (.string bytes, d) => bytes.length + uptoBulk d + 1
  | (_, d) => uptoBulk d + 1
 end
def uptoSmall : (H : Type) → List (DataW H) → Bool := fun _ ds => decide (uptoBulkAll ds ≤ 1048576)
def OpenSpec.upto (s : _root_.Go.ChangeSpec) : _root_.Go.OpenSpec := { _root_.Go.OpenSpec.ofChange s with cond := some uptoSmall }

/-- 'laws.FnExactNormNet', WHERE WHAT IT READS IS OF BULK AT MOST 1048576: true; the input reads as it did. -/
def fnExactNormNetUptoRow : OpenClaim := { program := "ytfpkfcfiihfopaadoor", sum := "f5d4e12d52335a664aa6af31d4a5427b36027c13f514284c1cdbd6ba55cdc688", func := "loop.example/stile/laws.FnExactNormNet", spec := "fnExactNormNet", unfollowed := true, recurses := true, named := ["loop.example/stile/impl.devWords", "loop.example/stile/impl.devSizes"], loops := true, apart := false, laid := [("loop.example/stile/impl.devSizes", laid_loop_example_stile_impl_devSizes), ("loop.example/stile/impl.devWords", laid_loop_example_stile_impl_devWords)], narrowed := true }
def FnExactNormNetUptoSaid : Prop := fnExactNormNetUptoRow.holds Tryd.pinned (OpenSpec.upto fnExactNormNetSpec)

/-- 'laws.FnExactSureRungs', WHERE WHAT IT READS IS OF BULK AT MOST 1048576: true; the input reads as it did. -/
def fnExactSureRungsUptoRow : OpenClaim := { program := "ytfpkfcfiihfopaadoor", sum := "f5d4e12d52335a664aa6af31d4a5427b36027c13f514284c1cdbd6ba55cdc688", func := "loop.example/stile/laws.FnExactSureRungs", spec := "fnExactSureRungs", unfollowed := true, recurses := true, named := ["loop.example/stile/impl.devWords", "loop.example/stile/impl.devSizes"], apart := false, laid := [("loop.example/stile/impl.devSizes", laid_loop_example_stile_impl_devSizes), ("loop.example/stile/impl.devWords", laid_loop_example_stile_impl_devWords)], narrowed := true }
def FnExactSureRungsUptoSaid : Prop := fnExactSureRungsUptoRow.holds Tryd.pinned (OpenSpec.upto fnExactSureRungsSpec)

/-- 'laws.FnExactBackNet', WHERE WHAT IT READS IS OF BULK AT MOST 1048576: true; the input reads as it did. -/
def fnExactBackNetUptoRow : OpenClaim := { program := "ytfpkfcfiihfopaadoor", sum := "f5d4e12d52335a664aa6af31d4a5427b36027c13f514284c1cdbd6ba55cdc688", func := "loop.example/stile/laws.FnExactBackNet", spec := "fnExactBackNet", unfollowed := true, recurses := true, named := ["loop.example/stile/impl.devWords", "loop.example/stile/impl.devSizes"], apart := false, laid := [("loop.example/stile/impl.devSizes", laid_loop_example_stile_impl_devSizes), ("loop.example/stile/impl.devWords", laid_loop_example_stile_impl_devWords)], narrowed := true }
def FnExactBackNetUptoSaid : Prop := fnExactBackNetUptoRow.holds Tryd.pinned (OpenSpec.upto fnExactBackNetSpec)

/-- 'laws.FnExactPeepTurn', WHERE WHAT IT READS IS OF BULK AT MOST 1048576: true; the input reads as it did. -/
def fnExactPeepTurnUptoRow : OpenClaim := { program := "ytfpkfcfiihfopaadoor", sum := "f5d4e12d52335a664aa6af31d4a5427b36027c13f514284c1cdbd6ba55cdc688", func := "loop.example/stile/laws.FnExactPeepTurn", spec := "fnExactPeepTurn", unfollowed := true, recurses := true, named := ["loop.example/stile/impl.devWords", "loop.example/stile/impl.devSizes", "loop.example/stile/impl.cmpFlips"], apart := false, laid := [("loop.example/stile/impl.devSizes", laid_loop_example_stile_impl_devSizes), ("loop.example/stile/impl.devWords", laid_loop_example_stile_impl_devWords), ("loop.example/stile/impl.cmpFlips", laid_loop_example_stile_impl_cmpFlips)], narrowed := true }
def FnExactPeepTurnUptoSaid : Prop := fnExactPeepTurnUptoRow.holds Tryd.pinned (OpenSpec.upto fnExactPeepTurnSpec)

/-- 'laws.FnPeepReal', WHERE WHAT IT READS IS OF BULK AT MOST 1048576: true; the input reads as it did. -/
def fnPeepRealUptoRow : OpenClaim := { program := "ytfpkfcfiihfopaadoor", sum := "f5d4e12d52335a664aa6af31d4a5427b36027c13f514284c1cdbd6ba55cdc688", func := "loop.example/stile/laws.FnPeepReal", spec := "fnPeepReal", unfollowed := true, recurses := true, named := ["loop.example/stile/impl.devWords", "loop.example/stile/impl.devSizes", "loop.example/stile/impl.once", "loop.example/stile/impl.cmpFlips"], apart := false, laid := [("loop.example/stile/impl.once", laid_loop_example_stile_impl_once), ("loop.example/stile/impl.devSizes", laid_loop_example_stile_impl_devSizes), ("loop.example/stile/impl.devWords", laid_loop_example_stile_impl_devWords), ("loop.example/stile/impl.cmpFlips", laid_loop_example_stile_impl_cmpFlips)], narrowed := true }
def FnPeepRealUptoSaid : Prop := fnPeepRealUptoRow.holds Tryd.pinned (OpenSpec.upto fnPeepRealSpec)

/-- 'laws.FnPeepTurn', WHERE WHAT IT READS IS OF BULK AT MOST 1048576: true; the input reads as it did. -/
def fnPeepTurnUptoRow : OpenClaim := { program := "ytfpkfcfiihfopaadoor", sum := "f5d4e12d52335a664aa6af31d4a5427b36027c13f514284c1cdbd6ba55cdc688", func := "loop.example/stile/laws.FnPeepTurn", spec := "fnPeepTurn", inPlace := ["math.Float64frombits", "math.Float64bits"], unfollowed := true, recurses := true, named := ["loop.example/stile/impl.devWords", "loop.example/stile/impl.devSizes", "loop.example/stile/impl.cmpFlips"], apart := false, laid := [("loop.example/stile/impl.devSizes", laid_loop_example_stile_impl_devSizes), ("loop.example/stile/impl.devWords", laid_loop_example_stile_impl_devWords), ("loop.example/stile/impl.cmpFlips", laid_loop_example_stile_impl_cmpFlips)], narrowed := true }
def FnPeepTurnUptoSaid : Prop := fnPeepTurnUptoRow.holds Tryd.pinned (OpenSpec.upto fnPeepTurnSpec)

end Rows
end Go.Proofs.YtfpkfcfiihfopaaDoor
