/- The value machine: the functions of the seat, run. Conditions: none. -/
import Derived.Test.YtfpkfcfiihfopaaDoorXVMF
import Derived.Test.YtfpkfcfiihfopaaDoorXVGT
import Derived.Test.YtfpkfcfiihfopaaDoorXVM33

namespace Go.VM
def cloneIds : List (Nat × Nat × Nat) := [(164, 4, 64), (197, 3, 24)]
def orc (f : Nat) : Bool := (cloneIds.lookup f).isSome
def ans : Orc := fun f args => match cloneIds.lookup f, args with
 | some (sz, bytes), [.w (.d (.l _ rows))] => if rows.all (·.length == sz) && room rows.length bytes then some ⟨.w (.own 0 0 rows.length none), [], [.row none sz rows 0]⟩ else none
 | _, _ => none
def moves : List Nat := [140, 165, 174, 192, 186, 198, 147, 213, 328, 348, 301, 332, 177, 316, 319]
def inouts : List Nat := [165, 192, 198, 312, 316, 319]
def mode (f : Nat) : Mode := { move := moves.contains f, inout := inouts.contains f }
def spIds : List Nat := [152]
def brIds : List Nat := [107]
def modeS (f : Nat) : Mode := { move := moves.contains f, inout := brIds.contains f || inouts.contains f }
def go (n : Nat) : CallT := run2 FT orc ans mode (fun f => spIds.contains f) (fun g => brIds.contains g) modeS GT n
abbrev callS (n : Nat) : CallT := lend (fun g => brIds.contains g) (go n)
theorem go_of {f : Nat} {F : Fn} (hF : FT f = some F) (ho : orc f = false) (hs : spIds.contains f = false := by rfl) {n : Nat} {args : List V} {bs : List Box} {s : Sup} : go (n + 1) f args bs s = runF (go n) mode GT n f F args bs s := by
 unfold go; simp only [run2, ho, hF, hs, Bool.false_eq_true, if_false]
theorem go_sp {f : Nat} {F : Fn} (hF : FT f = some F) (ho : orc f = false) (hs : spIds.contains f = true) {n : Nat} {args : List V} {bs : List Box} {s : Sup} : go (n + 1) f args bs s = runF (callS n) modeS GT n f F args bs s := by
 unfold go; simp only [run2, ho, hF, hs, Bool.false_eq_true, if_false, if_true]
 rfl
theorem go_orc {f : Nat} (ho : orc f = true) {n : Nat} {args : List V} {s : Sup} : go (n + 1) f args [] s = ans f args := by
 unfold go; simp [run2, ho]
attribute [simp] mode moves inouts orc cloneIds
end Go.VM
