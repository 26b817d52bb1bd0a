/-
  No cell of these rows narrows 'for every input' (looked for: loops, veiled, ifaces, maps, wideKeys, modest, calm, conditions, laid).
  DERIVED. THE GIVEN ROWS OF THIS SEAT. 10 by the template 'for every input the law returns true; each argument reads behind the call as it read before'; 0 by the template 'total and deterministic' (their statements: YthkednnfadhidaaTotals.lean).
  GIVEN WITH THE SEED: the statements are not yours to turn. If you find one false, say at which input.
  Laid BY PROGRAM, IN A SANDBOX (cutbox-rows.mjs): the forced cells as the released guide's own fill.sh prints them over the translation 58f5492a9dcc465a… (all of the seat's roots in one cut). By AI agents, Wed Nov 11 2026. No macro, syntax, notation, axiom, sorry.
-/
import Derived.Test.YthkednnfadhidaaChecked
import GoSem.Claim
import GoSem.ClaimJoined
import GoSem.ClaimMapViews
import Derived.JoinedTies
import Derived.KernelRfl
namespace Go.Proofs.Ythkednnfadhidaa
/- THE CELL 'sum', in the pinned program and in every row, IS THE sha256 OF THE DUMP (.gsa) THAT YthkednnfadhidaaProg.lean LOADS. Nothing in Lean hashes anything: it is a label: what it is worth is what the hold of that sum in a sandbox is worth. -/
noncomputable def Try.pinned : Pinned := { name := "ythkednnfadhidaa", sum := "58f5492a9dcc465a45d912bea99a7a41bf532813468f52cafe15c8c38e660048", checked := Try.checked }
namespace Rows
def none {H : Type} : Left H := { results := [], args := [] }

/-- 'laws.FnHoldFalls': WHATEVER THE INPUT: true; the input reads as it did. -/
def fnHoldFallsSpec : ChangeSpec := { name := "fnHoldFalls", fn := fun _ => fun
  | [d] => { results := [.lit (.bool true)], args := [d] }
  | _ => none }
def fnHoldFallsRow : OpenClaim := { program := "ythkednnfadhidaa", sum := "58f5492a9dcc465a45d912bea99a7a41bf532813468f52cafe15c8c38e660048", func := "loop.example/stile/laws.FnHoldFalls", spec := "fnHoldFalls", apart := false }
def FnHoldFallsSaid : Prop := fnHoldFallsRow.holds Try.pinned (OpenSpec.ofChange fnHoldFallsSpec)

/-- ITS FALSE NEIGHBOUR: 'it returns false'. Refute it at one input. -/
def fnHoldFallsWrong : ChangeSpec := { name := "fnHoldFalls", fn := fun _ => fun
  | [d] => { results := [.lit (.bool false)], args := [d] }
  | _ => none }
def FnHoldFallsWrongFalsely : Prop := fnHoldFallsRow.holds Try.pinned (OpenSpec.ofChange fnHoldFallsWrong)

/-- 'laws.FnExactDeskOk': WHATEVER THE INPUT: true; the input reads as it did. -/
def fnExactDeskOkSpec : ChangeSpec := { name := "fnExactDeskOk", fn := fun _ => fun
  | [d] => { results := [.lit (.bool true)], args := [d] }
  | _ => none }
def fnExactDeskOkRow : OpenClaim := { program := "ythkednnfadhidaa", sum := "58f5492a9dcc465a45d912bea99a7a41bf532813468f52cafe15c8c38e660048", func := "loop.example/stile/laws.FnExactDeskOk", spec := "fnExactDeskOk", apart := false }
def FnExactDeskOkSaid : Prop := fnExactDeskOkRow.holds Try.pinned (OpenSpec.ofChange fnExactDeskOkSpec)

/-- ITS FALSE NEIGHBOUR: 'it returns false'. Refute it at one input. -/
def fnExactDeskOkWrong : ChangeSpec := { name := "fnExactDeskOk", fn := fun _ => fun
  | [d] => { results := [.lit (.bool false)], args := [d] }
  | _ => none }
def FnExactDeskOkWrongFalsely : Prop := fnExactDeskOkRow.holds Try.pinned (OpenSpec.ofChange fnExactDeskOkWrong)

/-- 'laws.FnExactDeskFall': WHATEVER THE INPUT: true; the input reads as it did. -/
def fnExactDeskFallSpec : ChangeSpec := { name := "fnExactDeskFall", fn := fun _ => fun
  | [d] => { results := [.lit (.bool true)], args := [d] }
  | _ => none }
def fnExactDeskFallRow : OpenClaim := { program := "ythkednnfadhidaa", sum := "58f5492a9dcc465a45d912bea99a7a41bf532813468f52cafe15c8c38e660048", func := "loop.example/stile/laws.FnExactDeskFall", spec := "fnExactDeskFall", apart := false }
def FnExactDeskFallSaid : Prop := fnExactDeskFallRow.holds Try.pinned (OpenSpec.ofChange fnExactDeskFallSpec)

/-- ITS FALSE NEIGHBOUR: 'it returns false'. Refute it at one input. -/
def fnExactDeskFallWrong : ChangeSpec := { name := "fnExactDeskFall", fn := fun _ => fun
  | [d] => { results := [.lit (.bool false)], args := [d] }
  | _ => none }
def FnExactDeskFallWrongFalsely : Prop := fnExactDeskFallRow.holds Try.pinned (OpenSpec.ofChange fnExactDeskFallWrong)

/-- 'laws.FnHoldFold': WHATEVER THE INPUT: true; the input reads as it did. -/
def fnHoldFoldSpec : ChangeSpec := { name := "fnHoldFold", fn := fun _ => fun
  | [d] => { results := [.lit (.bool true)], args := [d] }
  | _ => none }
def fnHoldFoldRow : OpenClaim := { program := "ythkednnfadhidaa", sum := "58f5492a9dcc465a45d912bea99a7a41bf532813468f52cafe15c8c38e660048", func := "loop.example/stile/laws.FnHoldFold", spec := "fnHoldFold", apart := false }
def FnHoldFoldSaid : Prop := fnHoldFoldRow.holds Try.pinned (OpenSpec.ofChange fnHoldFoldSpec)

/-- ITS FALSE NEIGHBOUR: 'it returns false'. Refute it at one input. -/
def fnHoldFoldWrong : ChangeSpec := { name := "fnHoldFold", fn := fun _ => fun
  | [d] => { results := [.lit (.bool false)], args := [d] }
  | _ => none }
def FnHoldFoldWrongFalsely : Prop := fnHoldFoldRow.holds Try.pinned (OpenSpec.ofChange fnHoldFoldWrong)

/-- 'laws.FnExactHoldDo': WHATEVER THE INPUT: true; the input reads as it did. -/
def fnExactHoldDoSpec : ChangeSpec := { name := "fnExactHoldDo", fn := fun _ => fun
  | [d1, d2] => { results := [.lit (.bool true)], args := [d1, d2] }
  | _ => none }
def fnExactHoldDoRow : OpenClaim := { program := "ythkednnfadhidaa", sum := "58f5492a9dcc465a45d912bea99a7a41bf532813468f52cafe15c8c38e660048", func := "loop.example/stile/laws.FnExactHoldDo", spec := "fnExactHoldDo", apart := false }
def FnExactHoldDoSaid : Prop := fnExactHoldDoRow.holds Try.pinned (OpenSpec.ofChange fnExactHoldDoSpec)

/-- ITS FALSE NEIGHBOUR: 'it returns false'. Refute it at one input. -/
def fnExactHoldDoWrong : ChangeSpec := { name := "fnExactHoldDo", fn := fun _ => fun
  | [d1, d2] => { results := [.lit (.bool false)], args := [d1, d2] }
  | _ => none }
def FnExactHoldDoWrongFalsely : Prop := fnExactHoldDoRow.holds Try.pinned (OpenSpec.ofChange fnExactHoldDoWrong)

/-- 'laws.FnExactDeskSay': WHATEVER THE INPUT: true; the input reads as it did. -/
def fnExactDeskSaySpec : ChangeSpec := { name := "fnExactDeskSay", fn := fun _ => fun
  | [d] => { results := [.lit (.bool true)], args := [d] }
  | _ => none }
def fnExactDeskSayRow : OpenClaim := { program := "ythkednnfadhidaa", sum := "58f5492a9dcc465a45d912bea99a7a41bf532813468f52cafe15c8c38e660048", func := "loop.example/stile/laws.FnExactDeskSay", spec := "fnExactDeskSay", apart := false }
def FnExactDeskSaySaid : Prop := fnExactDeskSayRow.holds Try.pinned (OpenSpec.ofChange fnExactDeskSaySpec)

/-- ITS FALSE NEIGHBOUR: 'it returns false'. Refute it at one input. -/
def fnExactDeskSayWrong : ChangeSpec := { name := "fnExactDeskSay", fn := fun _ => fun
  | [d] => { results := [.lit (.bool false)], args := [d] }
  | _ => none }
def FnExactDeskSayWrongFalsely : Prop := fnExactDeskSayRow.holds Try.pinned (OpenSpec.ofChange fnExactDeskSayWrong)

/-- 'laws.FnHoldOnce': WHATEVER THE INPUT: true; the input reads as it did. -/
def fnHoldOnceSpec : ChangeSpec := { name := "fnHoldOnce", fn := fun _ => fun
  | [d] => { results := [.lit (.bool true)], args := [d] }
  | _ => none }
def fnHoldOnceRow : OpenClaim := { program := "ythkednnfadhidaa", sum := "58f5492a9dcc465a45d912bea99a7a41bf532813468f52cafe15c8c38e660048", func := "loop.example/stile/laws.FnHoldOnce", spec := "fnHoldOnce", apart := false }
def FnHoldOnceSaid : Prop := fnHoldOnceRow.holds Try.pinned (OpenSpec.ofChange fnHoldOnceSpec)

/-- ITS FALSE NEIGHBOUR: 'it returns false'. Refute it at one input. -/
def fnHoldOnceWrong : ChangeSpec := { name := "fnHoldOnce", fn := fun _ => fun
  | [d] => { results := [.lit (.bool false)], args := [d] }
  | _ => none }
def FnHoldOnceWrongFalsely : Prop := fnHoldOnceRow.holds Try.pinned (OpenSpec.ofChange fnHoldOnceWrong)

/-- 'laws.FnHoldTop': WHATEVER THE INPUT: true; the input reads as it did. -/
def fnHoldTopSpec : ChangeSpec := { name := "fnHoldTop", fn := fun _ => fun
  | [d] => { results := [.lit (.bool true)], args := [d] }
  | _ => none }
def fnHoldTopRow : OpenClaim := { program := "ythkednnfadhidaa", sum := "58f5492a9dcc465a45d912bea99a7a41bf532813468f52cafe15c8c38e660048", func := "loop.example/stile/laws.FnHoldTop", spec := "fnHoldTop", apart := false }
def FnHoldTopSaid : Prop := fnHoldTopRow.holds Try.pinned (OpenSpec.ofChange fnHoldTopSpec)

/-- ITS FALSE NEIGHBOUR: 'it returns false'. Refute it at one input. -/
def fnHoldTopWrong : ChangeSpec := { name := "fnHoldTop", fn := fun _ => fun
  | [d] => { results := [.lit (.bool false)], args := [d] }
  | _ => none }
def FnHoldTopWrongFalsely : Prop := fnHoldTopRow.holds Try.pinned (OpenSpec.ofChange fnHoldTopWrong)

/-- 'laws.FnExactHoldPlay': WHATEVER THE INPUT: true; the input reads as it did. -/
def fnExactHoldPlaySpec : ChangeSpec := { name := "fnExactHoldPlay", fn := fun _ => fun
  | [d1, d2, d3] => { results := [.lit (.bool true)], args := [d1, d2, d3] }
  | _ => none }
def fnExactHoldPlayRow : OpenClaim := { program := "ythkednnfadhidaa", sum := "58f5492a9dcc465a45d912bea99a7a41bf532813468f52cafe15c8c38e660048", func := "loop.example/stile/laws.FnExactHoldPlay", spec := "fnExactHoldPlay", apart := false }
def FnExactHoldPlaySaid : Prop := fnExactHoldPlayRow.holds Try.pinned (OpenSpec.ofChange fnExactHoldPlaySpec)

/-- ITS FALSE NEIGHBOUR: 'it returns false'. Refute it at one input. -/
def fnExactHoldPlayWrong : ChangeSpec := { name := "fnExactHoldPlay", fn := fun _ => fun
  | [d1, d2, d3] => { results := [.lit (.bool false)], args := [d1, d2, d3] }
  | _ => none }
def FnExactHoldPlayWrongFalsely : Prop := fnExactHoldPlayRow.holds Try.pinned (OpenSpec.ofChange fnExactHoldPlayWrong)

/-- 'laws.FnExactDeskHear': WHATEVER THE INPUT: true; the input reads as it did. -/
def fnExactDeskHearSpec : ChangeSpec := { name := "fnExactDeskHear", fn := fun _ => fun
  | [d1, d2] => { results := [.lit (.bool true)], args := [d1, d2] }
  | _ => none }
def fnExactDeskHearRow : OpenClaim := { program := "ythkednnfadhidaa", sum := "58f5492a9dcc465a45d912bea99a7a41bf532813468f52cafe15c8c38e660048", func := "loop.example/stile/laws.FnExactDeskHear", spec := "fnExactDeskHear", apart := false }
def FnExactDeskHearSaid : Prop := fnExactDeskHearRow.holds Try.pinned (OpenSpec.ofChange fnExactDeskHearSpec)

/-- ITS FALSE NEIGHBOUR: 'it returns false'. Refute it at one input. -/
def fnExactDeskHearWrong : ChangeSpec := { name := "fnExactDeskHear", fn := fun _ => fun
  | [d1, d2] => { results := [.lit (.bool false)], args := [d1, d2] }
  | _ => none }
def FnExactDeskHearWrongFalsely : Prop := fnExactDeskHearRow.holds Try.pinned (OpenSpec.ofChange fnExactDeskHearWrong)

/- THE SECOND FORM. 'bulk': how many values and letters a reading holds, each counted each time it is reached (what is shared counts as often as it is met; a slice's spare places count too). A statement '..UptoSaid' is the law's where the arguments, and the package variables that the reading takes, are together of bulk at most 1048576: NARROWER than '..Said'. Prove '..Said' where nothing that the law and all that it calls make is longer than what came in: it says more and counts as full. Else prove '..UptoSaid'. A law counts once. -/
mutual
def uptoBulk {H : Type} : DataW H → Nat
  | .lit (.string bytes) => bytes.length + 1
  | .lit _ => 1
  | .nil => 1
  | .ptr d => uptoBulk d + 1
  | .slice elems spare => uptoBulkAll elems + uptoBulkAll spare + 1
  | .agg parts => uptoBulkAll parts + 1
  | .iface _ d => uptoBulk d + 1
  | .map entries => uptoBulkEntries entries + 1
  | .held _ => 1
def uptoBulkAll {H : Type} : List (DataW H) → Nat
  | [] => 0
  | d :: r => uptoBulk d + uptoBulkAll r
def uptoBulkEntries {H : Type} : List (Lit × DataW H) → Nat
  | [] => 0
  | x :: r => uptoBulkEntry x + uptoBulkEntries r
def uptoBulkEntry {H : Type} : Lit × DataW H → Nat
  | (.string bytes, d) => bytes.length + uptoBulk d + 1
  | (_, d) => uptoBulk d + 1
 end
def uptoSmall : (H : Type) → List (DataW H) → Bool := fun _ ds => decide (uptoBulkAll ds ≤ 1048576)
def OpenSpec.upto (s : _root_.Go.ChangeSpec) : _root_.Go.OpenSpec := { _root_.Go.OpenSpec.ofChange s with cond := some uptoSmall }

/-- 'laws.FnHoldFalls', WHERE WHAT IT READS IS OF BULK AT MOST 1048576: true; the input reads as it did. -/
def fnHoldFallsUptoRow : OpenClaim := { program := "ythkednnfadhidaa", sum := "58f5492a9dcc465a45d912bea99a7a41bf532813468f52cafe15c8c38e660048", func := "loop.example/stile/laws.FnHoldFalls", spec := "fnHoldFalls", apart := false, narrowed := true }
def FnHoldFallsUptoSaid : Prop := fnHoldFallsUptoRow.holds Try.pinned (OpenSpec.upto fnHoldFallsSpec)

/-- 'laws.FnExactDeskOk', WHERE WHAT IT READS IS OF BULK AT MOST 1048576: true; the input reads as it did. -/
def fnExactDeskOkUptoRow : OpenClaim := { program := "ythkednnfadhidaa", sum := "58f5492a9dcc465a45d912bea99a7a41bf532813468f52cafe15c8c38e660048", func := "loop.example/stile/laws.FnExactDeskOk", spec := "fnExactDeskOk", apart := false, narrowed := true }
def FnExactDeskOkUptoSaid : Prop := fnExactDeskOkUptoRow.holds Try.pinned (OpenSpec.upto fnExactDeskOkSpec)

/-- 'laws.FnExactDeskFall', WHERE WHAT IT READS IS OF BULK AT MOST 1048576: true; the input reads as it did. -/
def fnExactDeskFallUptoRow : OpenClaim := { program := "ythkednnfadhidaa", sum := "58f5492a9dcc465a45d912bea99a7a41bf532813468f52cafe15c8c38e660048", func := "loop.example/stile/laws.FnExactDeskFall", spec := "fnExactDeskFall", apart := false, narrowed := true }
def FnExactDeskFallUptoSaid : Prop := fnExactDeskFallUptoRow.holds Try.pinned (OpenSpec.upto fnExactDeskFallSpec)

/-- 'laws.FnHoldFold', WHERE WHAT IT READS IS OF BULK AT MOST 1048576: true; the input reads as it did. -/
def fnHoldFoldUptoRow : OpenClaim := { program := "ythkednnfadhidaa", sum := "58f5492a9dcc465a45d912bea99a7a41bf532813468f52cafe15c8c38e660048", func := "loop.example/stile/laws.FnHoldFold", spec := "fnHoldFold", apart := false, narrowed := true }
def FnHoldFoldUptoSaid : Prop := fnHoldFoldUptoRow.holds Try.pinned (OpenSpec.upto fnHoldFoldSpec)

/-- 'laws.FnExactHoldDo', WHERE WHAT IT READS IS OF BULK AT MOST 1048576: true; the input reads as it did. -/
def fnExactHoldDoUptoRow : OpenClaim := { program := "ythkednnfadhidaa", sum := "58f5492a9dcc465a45d912bea99a7a41bf532813468f52cafe15c8c38e660048", func := "loop.example/stile/laws.FnExactHoldDo", spec := "fnExactHoldDo", apart := false, narrowed := true }
def FnExactHoldDoUptoSaid : Prop := fnExactHoldDoUptoRow.holds Try.pinned (OpenSpec.upto fnExactHoldDoSpec)

/-- 'laws.FnExactDeskSay', WHERE WHAT IT READS IS OF BULK AT MOST 1048576: true; the input reads as it did. -/
def fnExactDeskSayUptoRow : OpenClaim := { program := "ythkednnfadhidaa", sum := "58f5492a9dcc465a45d912bea99a7a41bf532813468f52cafe15c8c38e660048", func := "loop.example/stile/laws.FnExactDeskSay", spec := "fnExactDeskSay", apart := false, narrowed := true }
def FnExactDeskSayUptoSaid : Prop := fnExactDeskSayUptoRow.holds Try.pinned (OpenSpec.upto fnExactDeskSaySpec)

/-- 'laws.FnHoldOnce', WHERE WHAT IT READS IS OF BULK AT MOST 1048576: true; the input reads as it did. -/
def fnHoldOnceUptoRow : OpenClaim := { program := "ythkednnfadhidaa", sum := "58f5492a9dcc465a45d912bea99a7a41bf532813468f52cafe15c8c38e660048", func := "loop.example/stile/laws.FnHoldOnce", spec := "fnHoldOnce", apart := false, narrowed := true }
def FnHoldOnceUptoSaid : Prop := fnHoldOnceUptoRow.holds Try.pinned (OpenSpec.upto fnHoldOnceSpec)

/-- 'laws.FnHoldTop', WHERE WHAT IT READS IS OF BULK AT MOST 1048576: true; the input reads as it did. -/
def fnHoldTopUptoRow : OpenClaim := { program := "ythkednnfadhidaa", sum := "58f5492a9dcc465a45d912bea99a7a41bf532813468f52cafe15c8c38e660048", func := "loop.example/stile/laws.FnHoldTop", spec := "fnHoldTop", apart := false, narrowed := true }
def FnHoldTopUptoSaid : Prop := fnHoldTopUptoRow.holds Try.pinned (OpenSpec.upto fnHoldTopSpec)

/-- 'laws.FnExactHoldPlay', WHERE WHAT IT READS IS OF BULK AT MOST 1048576: true; the input reads as it did. -/
def fnExactHoldPlayUptoRow : OpenClaim := { program := "ythkednnfadhidaa", sum := "58f5492a9dcc465a45d912bea99a7a41bf532813468f52cafe15c8c38e660048", func := "loop.example/stile/laws.FnExactHoldPlay", spec := "fnExactHoldPlay", apart := false, narrowed := true }
def FnExactHoldPlayUptoSaid : Prop := fnExactHoldPlayUptoRow.holds Try.pinned (OpenSpec.upto fnExactHoldPlaySpec)

/-- 'laws.FnExactDeskHear', WHERE WHAT IT READS IS OF BULK AT MOST 1048576: true; the input reads as it did. -/
def fnExactDeskHearUptoRow : OpenClaim := { program := "ythkednnfadhidaa", sum := "58f5492a9dcc465a45d912bea99a7a41bf532813468f52cafe15c8c38e660048", func := "loop.example/stile/laws.FnExactDeskHear", spec := "fnExactDeskHear", apart := false, narrowed := true }
def FnExactDeskHearUptoSaid : Prop := fnExactDeskHearUptoRow.holds Try.pinned (OpenSpec.upto fnExactDeskHearSpec)

end Rows
end Go.Proofs.Ythkednnfadhidaa
