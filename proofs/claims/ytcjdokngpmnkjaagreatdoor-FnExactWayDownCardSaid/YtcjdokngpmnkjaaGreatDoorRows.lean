/-
  NARROWER THAN 'FOR EVERY INPUT', by the rows' own cells (each row's printed sentence says how): FnExactWayBits: loops, laid · FnWayNorm: loops, laid · FnExactWayPlain: loops, laid · FnExactWayDown: loops, laid · FnWayRungs: loops, laid · FnWayTop: loops, laid · FnBackTop: loops, laid · FnBackNet: loops, laid · FnExactBackUp: laid.
  DERIVED. THE GIVEN ROWS OF THIS SEAT. 9 by the template 'for every input the law returns true; each argument reads behind the call as it read before'; 0 by the template 'total and deterministic' (their statements: YtcjdokngpmnkjaaGreatDoorTotals.lean).
  GIVEN WITH THE SEED: the statements are not yours to turn. If you find one false, say at which input.
  Laid BY PROGRAM, IN A SANDBOX (cutbox-rows.mjs): the forced cells as the released guide's own fill.sh prints them over the translation 08bc7a733b7db21f… (all of the seat's roots in one cut). By AI agents, Wed Nov 11 2026. No macro, syntax, notation, axiom, sorry.
-/
import Derived.Test.YtcjdokngpmnkjaaGreatDoorChecked
import GoSem.Claim
import GoSem.ClaimJoined
import GoSem.ClaimMapViews
import Derived.JoinedTies
import Derived.KernelRfl
namespace Go.Proofs.YtcjdokngpmnkjaaGreatDoor
/- THE CELL 'sum', in the pinned program and in every row, IS THE sha256 OF THE DUMP (.gsa) THAT YtcjdokngpmnkjaaGreatDoorProg.lean LOADS. Nothing in Lean hashes anything: it is a label: what it is worth is what the hold of that sum in a sandbox is worth. -/
noncomputable def Tryz.pinned : Pinned := { name := "ytcjdokngpmnkjaagreatdoor", sum := "08bc7a733b7db21f16cdf53f3115155633db6f5a3097dd88562d334153352c02", checked := Tryz.checked }
namespace Rows
def none {H : Type} : Left H := { results := [], args := [] }

/- WHAT THE LISTED PACKAGE-LEVEL VARIABLES READ AS WHEN THE CALL BEGINS. Each datum BY PROGRAM (the guide's laid-datum.mjs) off the statement by which the dump's own 'gosem.cut.vars' lays the variable. In a bare row this is a premise. The card (YtcjdokngpmnkjaaGreatDoorCards.lean) ties it to the program's text. -/
def laid_loop_example_stile_impl_devSizes {H : Type} : DataW H := .slice [.lit (.int .i64 0), .lit (.int .i64 32), .lit (.int .i64 32), .lit (.int .i64 64), .lit (.int .i64 16), .lit (.int .i64 32), .lit (.int .i64 5), .lit (.int .i64 16), .lit (.int .i64 16), .lit (.int .i64 32), .lit (.int .i64 16)] []
def laid_loop_example_stile_impl_devWords {H : Type} : DataW H := .slice [.lit (.string [110, 97, 110]), .lit (.string [105, 110, 102]), .lit (.string [45, 105, 110, 102]), .lit (.string [45, 48, 46, 48])] []
def laid_loop_example_stile_impl_and {H : Type} : DataW H := .agg [.lit (.int .i64 2), .agg [.lit (.int .i64 0), .nil], .nil]

/-- 'laws.FnExactWayBits': WHATEVER THE INPUT: true; the input reads as it did. -/
def fnExactWayBitsSpec : ChangeSpec := { name := "fnExactWayBits", vars := ["loop.example/stile/impl.devWords", "loop.example/stile/impl.devSizes"], fn := fun _ => fun
  | [d, g1, g2] => { results := [.lit (.bool true)], args := [d], vars := [g1, g2] }
  | _ => none }
def fnExactWayBitsRow : OpenClaim := { program := "ytcjdokngpmnkjaagreatdoor", sum := "08bc7a733b7db21f16cdf53f3115155633db6f5a3097dd88562d334153352c02", func := "loop.example/stile/laws.FnExactWayBits", spec := "fnExactWayBits", unfollowed := true, recurses := true, named := ["loop.example/stile/impl.devWords", "loop.example/stile/impl.devSizes"], loops := true, apart := false, laid := [("loop.example/stile/impl.devSizes", laid_loop_example_stile_impl_devSizes), ("loop.example/stile/impl.devWords", laid_loop_example_stile_impl_devWords)] }
def FnExactWayBitsSaid : Prop := fnExactWayBitsRow.holds Tryz.pinned (OpenSpec.ofChange fnExactWayBitsSpec)

/-- ITS FALSE NEIGHBOUR: 'it returns false'. Refute it at one input. -/
def fnExactWayBitsWrong : ChangeSpec := { name := "fnExactWayBits", vars := ["loop.example/stile/impl.devWords", "loop.example/stile/impl.devSizes"], fn := fun _ => fun
  | [d, g1, g2] => { results := [.lit (.bool false)], args := [d], vars := [g1, g2] }
  | _ => none }
def FnExactWayBitsWrongFalsely : Prop := fnExactWayBitsRow.holds Tryz.pinned (OpenSpec.ofChange fnExactWayBitsWrong)

/-- 'laws.FnWayNorm': WHATEVER THE INPUT: true; the input reads as it did. -/
def fnWayNormSpec : ChangeSpec := { name := "fnWayNorm", vars := ["loop.example/stile/impl.devWords", "loop.example/stile/impl.devSizes", "loop.example/stile/impl.and"], fn := fun _ => fun
  | [d, g1, g2, g3] => { results := [.lit (.bool true)], args := [d], vars := [g1, g2, g3] }
  | _ => none }
def fnWayNormRow : OpenClaim := { program := "ytcjdokngpmnkjaagreatdoor", sum := "08bc7a733b7db21f16cdf53f3115155633db6f5a3097dd88562d334153352c02", func := "loop.example/stile/laws.FnWayNorm", spec := "fnWayNorm", unfollowed := true, recurses := true, named := ["loop.example/stile/impl.devWords", "loop.example/stile/impl.devSizes", "loop.example/stile/impl.and"], loops := true, apart := false, laid := [("loop.example/stile/impl.and", laid_loop_example_stile_impl_and), ("loop.example/stile/impl.devSizes", laid_loop_example_stile_impl_devSizes), ("loop.example/stile/impl.devWords", laid_loop_example_stile_impl_devWords)] }
def FnWayNormSaid : Prop := fnWayNormRow.holds Tryz.pinned (OpenSpec.ofChange fnWayNormSpec)

/-- ITS FALSE NEIGHBOUR: 'it returns false'. Refute it at one input. -/
def fnWayNormWrong : ChangeSpec := { name := "fnWayNorm", vars := ["loop.example/stile/impl.devWords", "loop.example/stile/impl.devSizes", "loop.example/stile/impl.and"], fn := fun _ => fun
  | [d, g1, g2, g3] => { results := [.lit (.bool false)], args := [d], vars := [g1, g2, g3] }
  | _ => none }
def FnWayNormWrongFalsely : Prop := fnWayNormRow.holds Tryz.pinned (OpenSpec.ofChange fnWayNormWrong)

/-- 'laws.FnExactWayPlain': WHATEVER THE INPUT: true; the input reads as it did. -/
def fnExactWayPlainSpec : ChangeSpec := { name := "fnExactWayPlain", vars := ["loop.example/stile/impl.devWords", "loop.example/stile/impl.devSizes", "loop.example/stile/impl.and"], fn := fun _ => fun
  | [d, g1, g2, g3] => { results := [.lit (.bool true)], args := [d], vars := [g1, g2, g3] }
  | _ => none }
def fnExactWayPlainRow : OpenClaim := { program := "ytcjdokngpmnkjaagreatdoor", sum := "08bc7a733b7db21f16cdf53f3115155633db6f5a3097dd88562d334153352c02", func := "loop.example/stile/laws.FnExactWayPlain", spec := "fnExactWayPlain", unfollowed := true, recurses := true, named := ["loop.example/stile/impl.devWords", "loop.example/stile/impl.devSizes", "loop.example/stile/impl.and"], loops := true, apart := false, laid := [("loop.example/stile/impl.and", laid_loop_example_stile_impl_and), ("loop.example/stile/impl.devSizes", laid_loop_example_stile_impl_devSizes), ("loop.example/stile/impl.devWords", laid_loop_example_stile_impl_devWords)] }
def FnExactWayPlainSaid : Prop := fnExactWayPlainRow.holds Tryz.pinned (OpenSpec.ofChange fnExactWayPlainSpec)

/-- ITS FALSE NEIGHBOUR: 'it returns false'. Refute it at one input. -/
def fnExactWayPlainWrong : ChangeSpec := { name := "fnExactWayPlain", vars := ["loop.example/stile/impl.devWords", "loop.example/stile/impl.devSizes", "loop.example/stile/impl.and"], fn := fun _ => fun
  | [d, g1, g2, g3] => { results := [.lit (.bool false)], args := [d], vars := [g1, g2, g3] }
  | _ => none }
def FnExactWayPlainWrongFalsely : Prop := fnExactWayPlainRow.holds Tryz.pinned (OpenSpec.ofChange fnExactWayPlainWrong)

/-- 'laws.FnExactWayDown': WHATEVER THE INPUT: true; the input reads as it did. -/
def fnExactWayDownSpec : ChangeSpec := { name := "fnExactWayDown", vars := ["loop.example/stile/impl.devWords", "loop.example/stile/impl.devSizes", "loop.example/stile/impl.and"], fn := fun _ => fun
  | [d, g1, g2, g3] => { results := [.lit (.bool true)], args := [d], vars := [g1, g2, g3] }
  | _ => none }
def fnExactWayDownRow : OpenClaim := { program := "ytcjdokngpmnkjaagreatdoor", sum := "08bc7a733b7db21f16cdf53f3115155633db6f5a3097dd88562d334153352c02", func := "loop.example/stile/laws.FnExactWayDown", spec := "fnExactWayDown", unfollowed := true, recurses := true, named := ["loop.example/stile/impl.devWords", "loop.example/stile/impl.devSizes", "loop.example/stile/impl.and"], loops := true, apart := false, laid := [("loop.example/stile/impl.and", laid_loop_example_stile_impl_and), ("loop.example/stile/impl.devSizes", laid_loop_example_stile_impl_devSizes), ("loop.example/stile/impl.devWords", laid_loop_example_stile_impl_devWords)] }
def FnExactWayDownSaid : Prop := fnExactWayDownRow.holds Tryz.pinned (OpenSpec.ofChange fnExactWayDownSpec)

/-- ITS FALSE NEIGHBOUR: 'it returns false'. Refute it at one input. -/
def fnExactWayDownWrong : ChangeSpec := { name := "fnExactWayDown", vars := ["loop.example/stile/impl.devWords", "loop.example/stile/impl.devSizes", "loop.example/stile/impl.and"], fn := fun _ => fun
  | [d, g1, g2, g3] => { results := [.lit (.bool false)], args := [d], vars := [g1, g2, g3] }
  | _ => none }
def FnExactWayDownWrongFalsely : Prop := fnExactWayDownRow.holds Tryz.pinned (OpenSpec.ofChange fnExactWayDownWrong)

/-- 'laws.FnWayRungs': WHATEVER THE INPUT: true; the input reads as it did. -/
def fnWayRungsSpec : ChangeSpec := { name := "fnWayRungs", vars := ["loop.example/stile/impl.devWords", "loop.example/stile/impl.devSizes", "loop.example/stile/impl.and"], fn := fun _ => fun
  | [d, g1, g2, g3] => { results := [.lit (.bool true)], args := [d], vars := [g1, g2, g3] }
  | _ => none }
def fnWayRungsRow : OpenClaim := { program := "ytcjdokngpmnkjaagreatdoor", sum := "08bc7a733b7db21f16cdf53f3115155633db6f5a3097dd88562d334153352c02", func := "loop.example/stile/laws.FnWayRungs", spec := "fnWayRungs", unfollowed := true, recurses := true, named := ["loop.example/stile/impl.devWords", "loop.example/stile/impl.devSizes", "loop.example/stile/impl.and"], loops := true, apart := false, laid := [("loop.example/stile/impl.and", laid_loop_example_stile_impl_and), ("loop.example/stile/impl.devSizes", laid_loop_example_stile_impl_devSizes), ("loop.example/stile/impl.devWords", laid_loop_example_stile_impl_devWords)] }
def FnWayRungsSaid : Prop := fnWayRungsRow.holds Tryz.pinned (OpenSpec.ofChange fnWayRungsSpec)

/-- ITS FALSE NEIGHBOUR: 'it returns false'. Refute it at one input. -/
def fnWayRungsWrong : ChangeSpec := { name := "fnWayRungs", vars := ["loop.example/stile/impl.devWords", "loop.example/stile/impl.devSizes", "loop.example/stile/impl.and"], fn := fun _ => fun
  | [d, g1, g2, g3] => { results := [.lit (.bool false)], args := [d], vars := [g1, g2, g3] }
  | _ => none }
def FnWayRungsWrongFalsely : Prop := fnWayRungsRow.holds Tryz.pinned (OpenSpec.ofChange fnWayRungsWrong)

/-- 'laws.FnWayTop': WHATEVER THE INPUT: true; the input reads as it did. -/
def fnWayTopSpec : ChangeSpec := { name := "fnWayTop", vars := ["loop.example/stile/impl.devWords", "loop.example/stile/impl.devSizes", "loop.example/stile/impl.and"], fn := fun _ => fun
  | [d, g1, g2, g3] => { results := [.lit (.bool true)], args := [d], vars := [g1, g2, g3] }
  | _ => none }
def fnWayTopRow : OpenClaim := { program := "ytcjdokngpmnkjaagreatdoor", sum := "08bc7a733b7db21f16cdf53f3115155633db6f5a3097dd88562d334153352c02", func := "loop.example/stile/laws.FnWayTop", spec := "fnWayTop", unfollowed := true, recurses := true, named := ["loop.example/stile/impl.devWords", "loop.example/stile/impl.devSizes", "loop.example/stile/impl.and"], loops := true, apart := false, laid := [("loop.example/stile/impl.and", laid_loop_example_stile_impl_and), ("loop.example/stile/impl.devSizes", laid_loop_example_stile_impl_devSizes), ("loop.example/stile/impl.devWords", laid_loop_example_stile_impl_devWords)] }
def FnWayTopSaid : Prop := fnWayTopRow.holds Tryz.pinned (OpenSpec.ofChange fnWayTopSpec)

/-- ITS FALSE NEIGHBOUR: 'it returns false'. Refute it at one input. -/
def fnWayTopWrong : ChangeSpec := { name := "fnWayTop", vars := ["loop.example/stile/impl.devWords", "loop.example/stile/impl.devSizes", "loop.example/stile/impl.and"], fn := fun _ => fun
  | [d, g1, g2, g3] => { results := [.lit (.bool false)], args := [d], vars := [g1, g2, g3] }
  | _ => none }
def FnWayTopWrongFalsely : Prop := fnWayTopRow.holds Tryz.pinned (OpenSpec.ofChange fnWayTopWrong)

/-- 'laws.FnBackTop': WHATEVER THE INPUT: true; the input reads as it did. -/
def fnBackTopSpec : ChangeSpec := { name := "fnBackTop", vars := ["loop.example/stile/impl.devWords", "loop.example/stile/impl.devSizes", "loop.example/stile/impl.and"], fn := fun _ => fun
  | [d, g1, g2, g3] => { results := [.lit (.bool true)], args := [d], vars := [g1, g2, g3] }
  | _ => none }
def fnBackTopRow : OpenClaim := { program := "ytcjdokngpmnkjaagreatdoor", sum := "08bc7a733b7db21f16cdf53f3115155633db6f5a3097dd88562d334153352c02", func := "loop.example/stile/laws.FnBackTop", spec := "fnBackTop", unfollowed := true, recurses := true, named := ["loop.example/stile/impl.devWords", "loop.example/stile/impl.devSizes", "loop.example/stile/impl.and"], loops := true, apart := false, laid := [("loop.example/stile/impl.and", laid_loop_example_stile_impl_and), ("loop.example/stile/impl.devSizes", laid_loop_example_stile_impl_devSizes), ("loop.example/stile/impl.devWords", laid_loop_example_stile_impl_devWords)] }
def FnBackTopSaid : Prop := fnBackTopRow.holds Tryz.pinned (OpenSpec.ofChange fnBackTopSpec)

/-- ITS FALSE NEIGHBOUR: 'it returns false'. Refute it at one input. -/
def fnBackTopWrong : ChangeSpec := { name := "fnBackTop", vars := ["loop.example/stile/impl.devWords", "loop.example/stile/impl.devSizes", "loop.example/stile/impl.and"], fn := fun _ => fun
  | [d, g1, g2, g3] => { results := [.lit (.bool false)], args := [d], vars := [g1, g2, g3] }
  | _ => none }
def FnBackTopWrongFalsely : Prop := fnBackTopRow.holds Tryz.pinned (OpenSpec.ofChange fnBackTopWrong)

/-- 'laws.FnBackNet': WHATEVER THE INPUT: true; the input reads as it did. -/
def fnBackNetSpec : ChangeSpec := { name := "fnBackNet", vars := ["loop.example/stile/impl.devWords", "loop.example/stile/impl.devSizes", "loop.example/stile/impl.and"], fn := fun _ => fun
  | [d, g1, g2, g3] => { results := [.lit (.bool true)], args := [d], vars := [g1, g2, g3] }
  | _ => none }
def fnBackNetRow : OpenClaim := { program := "ytcjdokngpmnkjaagreatdoor", sum := "08bc7a733b7db21f16cdf53f3115155633db6f5a3097dd88562d334153352c02", func := "loop.example/stile/laws.FnBackNet", spec := "fnBackNet", unfollowed := true, recurses := true, named := ["loop.example/stile/impl.devWords", "loop.example/stile/impl.devSizes", "loop.example/stile/impl.and"], loops := true, apart := false, laid := [("loop.example/stile/impl.and", laid_loop_example_stile_impl_and), ("loop.example/stile/impl.devSizes", laid_loop_example_stile_impl_devSizes), ("loop.example/stile/impl.devWords", laid_loop_example_stile_impl_devWords)] }
def FnBackNetSaid : Prop := fnBackNetRow.holds Tryz.pinned (OpenSpec.ofChange fnBackNetSpec)

/-- ITS FALSE NEIGHBOUR: 'it returns false'. Refute it at one input. -/
def fnBackNetWrong : ChangeSpec := { name := "fnBackNet", vars := ["loop.example/stile/impl.devWords", "loop.example/stile/impl.devSizes", "loop.example/stile/impl.and"], fn := fun _ => fun
  | [d, g1, g2, g3] => { results := [.lit (.bool false)], args := [d], vars := [g1, g2, g3] }
  | _ => none }
def FnBackNetWrongFalsely : Prop := fnBackNetRow.holds Tryz.pinned (OpenSpec.ofChange fnBackNetWrong)

/-- 'laws.FnExactBackUp': WHATEVER THE INPUT: true; the input reads as it did. -/
def fnExactBackUpSpec : ChangeSpec := { name := "fnExactBackUp", vars := ["loop.example/stile/impl.devWords", "loop.example/stile/impl.devSizes"], fn := fun _ => fun
  | [d, g1, g2] => { results := [.lit (.bool true)], args := [d], vars := [g1, g2] }
  | _ => none }
def fnExactBackUpRow : OpenClaim := { program := "ytcjdokngpmnkjaagreatdoor", sum := "08bc7a733b7db21f16cdf53f3115155633db6f5a3097dd88562d334153352c02", func := "loop.example/stile/laws.FnExactBackUp", spec := "fnExactBackUp", unfollowed := true, recurses := true, named := ["loop.example/stile/impl.devWords", "loop.example/stile/impl.devSizes"], apart := false, laid := [("loop.example/stile/impl.devSizes", laid_loop_example_stile_impl_devSizes), ("loop.example/stile/impl.devWords", laid_loop_example_stile_impl_devWords)] }
def FnExactBackUpSaid : Prop := fnExactBackUpRow.holds Tryz.pinned (OpenSpec.ofChange fnExactBackUpSpec)

/-- ITS FALSE NEIGHBOUR: 'it returns false'. Refute it at one input. -/
def fnExactBackUpWrong : ChangeSpec := { name := "fnExactBackUp", vars := ["loop.example/stile/impl.devWords", "loop.example/stile/impl.devSizes"], fn := fun _ => fun
  | [d, g1, g2] => { results := [.lit (.bool false)], args := [d], vars := [g1, g2] }
  | _ => none }
def FnExactBackUpWrongFalsely : Prop := fnExactBackUpRow.holds Tryz.pinned (OpenSpec.ofChange fnExactBackUpWrong)

/- THE SECOND FORM. 'bulk': how many values and letters a reading holds, each counted each time it is reached (what is shared counts as often as it is met; a slice's spare places count too). A statement '..UptoSaid' is the law's where the arguments, and the package variables that the reading takes, are together of bulk at most 1048576: NARROWER than '..Said'. Prove '..Said' where nothing that the law and all that it calls make is longer than what came in: it says more and counts as full. Else prove '..UptoSaid'. A law counts once. -/
mutual
def uptoBulk {H : Type} : DataW H → Nat
  | .lit (.string bytes) => bytes.length + 1
  | .lit _ => 1
  | .nil => 1
  | .ptr d => uptoBulk d + 1
  | .slice elems spare => uptoBulkAll elems + uptoBulkAll spare + 1
  | .agg parts => uptoBulkAll parts + 1
  | .iface _ d => uptoBulk d + 1
  | .map entries => uptoBulkEntries entries + 1
  | .held _ => 1
def uptoBulkAll {H : Type} : List (DataW H) → Nat
  | [] => 0
  | d :: r => uptoBulk d + uptoBulkAll r
def uptoBulkEntries {H : Type} : List (Lit × DataW H) → Nat
  | [] => 0
  | x :: r => uptoBulkEntry x + uptoBulkEntries r
def uptoBulkEntry {H : Type} : Lit × DataW H → Nat
  | (.string bytes, d) => bytes.length + uptoBulk d + 1
  | (_, d) => uptoBulk d + 1
 end
def uptoSmall : (H : Type) → List (DataW H) → Bool := fun _ ds => decide (uptoBulkAll ds ≤ 1048576)
def OpenSpec.upto (s : _root_.Go.ChangeSpec) : _root_.Go.OpenSpec := { _root_.Go.OpenSpec.ofChange s with cond := some uptoSmall }

/-- 'laws.FnExactWayBits', WHERE WHAT IT READS IS OF BULK AT MOST 1048576: true; the input reads as it did. -/
def fnExactWayBitsUptoRow : OpenClaim := { program := "ytcjdokngpmnkjaagreatdoor", sum := "08bc7a733b7db21f16cdf53f3115155633db6f5a3097dd88562d334153352c02", func := "loop.example/stile/laws.FnExactWayBits", spec := "fnExactWayBits", unfollowed := true, recurses := true, named := ["loop.example/stile/impl.devWords", "loop.example/stile/impl.devSizes"], loops := true, apart := false, laid := [("loop.example/stile/impl.devSizes", laid_loop_example_stile_impl_devSizes), ("loop.example/stile/impl.devWords", laid_loop_example_stile_impl_devWords)], narrowed := true }
def FnExactWayBitsUptoSaid : Prop := fnExactWayBitsUptoRow.holds Tryz.pinned (OpenSpec.upto fnExactWayBitsSpec)

/-- 'laws.FnWayNorm', WHERE WHAT IT READS IS OF BULK AT MOST 1048576: true; the input reads as it did. -/
def fnWayNormUptoRow : OpenClaim := { program := "ytcjdokngpmnkjaagreatdoor", sum := "08bc7a733b7db21f16cdf53f3115155633db6f5a3097dd88562d334153352c02", func := "loop.example/stile/laws.FnWayNorm", spec := "fnWayNorm", unfollowed := true, recurses := true, named := ["loop.example/stile/impl.devWords", "loop.example/stile/impl.devSizes", "loop.example/stile/impl.and"], loops := true, apart := false, laid := [("loop.example/stile/impl.and", laid_loop_example_stile_impl_and), ("loop.example/stile/impl.devSizes", laid_loop_example_stile_impl_devSizes), ("loop.example/stile/impl.devWords", laid_loop_example_stile_impl_devWords)], narrowed := true }
def FnWayNormUptoSaid : Prop := fnWayNormUptoRow.holds Tryz.pinned (OpenSpec.upto fnWayNormSpec)

/-- 'laws.FnExactWayPlain', WHERE WHAT IT READS IS OF BULK AT MOST 1048576: true; the input reads as it did. -/
def fnExactWayPlainUptoRow : OpenClaim := { program := "ytcjdokngpmnkjaagreatdoor", sum := "08bc7a733b7db21f16cdf53f3115155633db6f5a3097dd88562d334153352c02", func := "loop.example/stile/laws.FnExactWayPlain", spec := "fnExactWayPlain", unfollowed := true, recurses := true, named := ["loop.example/stile/impl.devWords", "loop.example/stile/impl.devSizes", "loop.example/stile/impl.and"], loops := true, apart := false, laid := [("loop.example/stile/impl.and", laid_loop_example_stile_impl_and), ("loop.example/stile/impl.devSizes", laid_loop_example_stile_impl_devSizes), ("loop.example/stile/impl.devWords", laid_loop_example_stile_impl_devWords)], narrowed := true }
def FnExactWayPlainUptoSaid : Prop := fnExactWayPlainUptoRow.holds Tryz.pinned (OpenSpec.upto fnExactWayPlainSpec)

/-- 'laws.FnExactWayDown', WHERE WHAT IT READS IS OF BULK AT MOST 1048576: true; the input reads as it did. -/
def fnExactWayDownUptoRow : OpenClaim := { program := "ytcjdokngpmnkjaagreatdoor", sum := "08bc7a733b7db21f16cdf53f3115155633db6f5a3097dd88562d334153352c02", func := "loop.example/stile/laws.FnExactWayDown", spec := "fnExactWayDown", unfollowed := true, recurses := true, named := ["loop.example/stile/impl.devWords", "loop.example/stile/impl.devSizes", "loop.example/stile/impl.and"], loops := true, apart := false, laid := [("loop.example/stile/impl.and", laid_loop_example_stile_impl_and), ("loop.example/stile/impl.devSizes", laid_loop_example_stile_impl_devSizes), ("loop.example/stile/impl.devWords", laid_loop_example_stile_impl_devWords)], narrowed := true }
def FnExactWayDownUptoSaid : Prop := fnExactWayDownUptoRow.holds Tryz.pinned (OpenSpec.upto fnExactWayDownSpec)

/-- 'laws.FnWayRungs', WHERE WHAT IT READS IS OF BULK AT MOST 1048576: true; the input reads as it did. -/
def fnWayRungsUptoRow : OpenClaim := { program := "ytcjdokngpmnkjaagreatdoor", sum := "08bc7a733b7db21f16cdf53f3115155633db6f5a3097dd88562d334153352c02", func := "loop.example/stile/laws.FnWayRungs", spec := "fnWayRungs", unfollowed := true, recurses := true, named := ["loop.example/stile/impl.devWords", "loop.example/stile/impl.devSizes", "loop.example/stile/impl.and"], loops := true, apart := false, laid := [("loop.example/stile/impl.and", laid_loop_example_stile_impl_and), ("loop.example/stile/impl.devSizes", laid_loop_example_stile_impl_devSizes), ("loop.example/stile/impl.devWords", laid_loop_example_stile_impl_devWords)], narrowed := true }
def FnWayRungsUptoSaid : Prop := fnWayRungsUptoRow.holds Tryz.pinned (OpenSpec.upto fnWayRungsSpec)

/-- 'laws.FnWayTop', WHERE WHAT IT READS IS OF BULK AT MOST 1048576: true; the input reads as it did. -/
def fnWayTopUptoRow : OpenClaim := { program := "ytcjdokngpmnkjaagreatdoor", sum := "08bc7a733b7db21f16cdf53f3115155633db6f5a3097dd88562d334153352c02", func := "loop.example/stile/laws.FnWayTop", spec := "fnWayTop", unfollowed := true, recurses := true, named := ["loop.example/stile/impl.devWords", "loop.example/stile/impl.devSizes", "loop.example/stile/impl.and"], loops := true, apart := false, laid := [("loop.example/stile/impl.and", laid_loop_example_stile_impl_and), ("loop.example/stile/impl.devSizes", laid_loop_example_stile_impl_devSizes), ("loop.example/stile/impl.devWords", laid_loop_example_stile_impl_devWords)], narrowed := true }
def FnWayTopUptoSaid : Prop := fnWayTopUptoRow.holds Tryz.pinned (OpenSpec.upto fnWayTopSpec)

/-- 'laws.FnBackTop', WHERE WHAT IT READS IS OF BULK AT MOST 1048576: true; the input reads as it did. -/
def fnBackTopUptoRow : OpenClaim := { program := "ytcjdokngpmnkjaagreatdoor", sum := "08bc7a733b7db21f16cdf53f3115155633db6f5a3097dd88562d334153352c02", func := "loop.example/stile/laws.FnBackTop", spec := "fnBackTop", unfollowed := true, recurses := true, named := ["loop.example/stile/impl.devWords", "loop.example/stile/impl.devSizes", "loop.example/stile/impl.and"], loops := true, apart := false, laid := [("loop.example/stile/impl.and", laid_loop_example_stile_impl_and), ("loop.example/stile/impl.devSizes", laid_loop_example_stile_impl_devSizes), ("loop.example/stile/impl.devWords", laid_loop_example_stile_impl_devWords)], narrowed := true }
def FnBackTopUptoSaid : Prop := fnBackTopUptoRow.holds Tryz.pinned (OpenSpec.upto fnBackTopSpec)

/-- 'laws.FnBackNet', WHERE WHAT IT READS IS OF BULK AT MOST 1048576: true; the input reads as it did. -/
def fnBackNetUptoRow : OpenClaim := { program := "ytcjdokngpmnkjaagreatdoor", sum := "08bc7a733b7db21f16cdf53f3115155633db6f5a3097dd88562d334153352c02", func := "loop.example/stile/laws.FnBackNet", spec := "fnBackNet", unfollowed := true, recurses := true, named := ["loop.example/stile/impl.devWords", "loop.example/stile/impl.devSizes", "loop.example/stile/impl.and"], loops := true, apart := false, laid := [("loop.example/stile/impl.and", laid_loop_example_stile_impl_and), ("loop.example/stile/impl.devSizes", laid_loop_example_stile_impl_devSizes), ("loop.example/stile/impl.devWords", laid_loop_example_stile_impl_devWords)], narrowed := true }
def FnBackNetUptoSaid : Prop := fnBackNetUptoRow.holds Tryz.pinned (OpenSpec.upto fnBackNetSpec)

/-- 'laws.FnExactBackUp', WHERE WHAT IT READS IS OF BULK AT MOST 1048576: true; the input reads as it did. -/
def fnExactBackUpUptoRow : OpenClaim := { program := "ytcjdokngpmnkjaagreatdoor", sum := "08bc7a733b7db21f16cdf53f3115155633db6f5a3097dd88562d334153352c02", func := "loop.example/stile/laws.FnExactBackUp", spec := "fnExactBackUp", unfollowed := true, recurses := true, named := ["loop.example/stile/impl.devWords", "loop.example/stile/impl.devSizes"], apart := false, laid := [("loop.example/stile/impl.devSizes", laid_loop_example_stile_impl_devSizes), ("loop.example/stile/impl.devWords", laid_loop_example_stile_impl_devWords)], narrowed := true }
def FnExactBackUpUptoSaid : Prop := fnExactBackUpUptoRow.holds Tryz.pinned (OpenSpec.upto fnExactBackUpSpec)

end Rows
end Go.Proofs.YtcjdokngpmnkjaaGreatDoor
