/- The value machine: the functions of the seat, run. Conditions: none. -/
import Derived.Test.YtacfoamnbdlmpaaDoorVMF
import Derived.Test.YtacfoamnbdlmpaaDoorVGT

namespace Go.VM

/-- 'slices.Clone' asks whether its argument is nil: its answer is told of by itself. -/
def cloneIds : List (Nat × Nat × Nat) := [(164, 4, 64), (191, 2, 32), (197, 3, 24)]
def orc (f : Nat) : Bool := (cloneIds.lookup f).isSome
def ans : Orc := fun f args => match cloneIds.lookup f, args with
  | some (sz, bytes), [.w (.d (.l _ rows))] => if rows.all (·.length == sz) && room rows.length bytes then some ⟨.w (.own 0 0 rows.length none), [], [.row none sz rows 0]⟩ else none
  | _, _ => none
def moves : List Nat := [140, 165, 174, 192, 186, 198, 147, 213]
def inouts : List Nat := [165, 192, 198]
def mode (f : Nat) : Mode := { move := moves.contains f, inout := inouts.contains f }
def go (n : Nat) : CallT := run FT orc ans mode GT n

theorem go_of {f : Nat} {F : Fn} (hF : FT f = some F) (ho : orc f = false) {n : Nat} {args : List V} {bs : List Box} {s : Sup} : go (n + 1) f args bs s = runF (go n) mode GT n f F args bs s := by
  unfold go
  simp [run, ho, hF]
theorem go_orc {f : Nat} (ho : orc f = true) {n : Nat} {args : List V} {s : Sup} : go (n + 1) f args [] s = ans f args := by
  unfold go
  simp [run, ho]
attribute [simp] mode moves inouts orc cloneIds

end Go.VM
