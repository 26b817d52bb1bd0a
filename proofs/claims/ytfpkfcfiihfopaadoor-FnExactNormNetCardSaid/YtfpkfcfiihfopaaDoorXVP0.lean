/- The stamped machine of the seat: which functions put stamps on what they make. Conditions: none. -/
import Derived.Test.YtfpkfcfiihfopaaDoorXVM31
import Derived.Test.YtfpkfcfiihfopaaDoorXVM50

namespace Go.VM
def stP : List Nat := [237, 228, 229, 221, 252, 249, 245, 290, 321, 163, 147, 139, 125, 330, 120, 306]
def stH : List Nat := [273, 297, 271, 298, 285, 105, 108, 279, 335, 287, 375]
def isS (f : Nat) : Bool := stP.contains f || stH.contains f
def modeT (f : Nat) : Mode := { stamp := stP.contains f, inout := inouts.contains f }
def goS (n : Nat) : CallT := runS FT isS go modeT GT n
theorem gos_of {f : Nat} {F : Fn} (hF : FT f = some F) (hs : isS f = true := by rfl) {n : Nat} {args : List V} {bs : List Box} {s : Sup} : goS (n + 1) f args bs s = runF (goS n) modeT GT n f F args bs s := by
 unfold goS; simp only [runS, hF, hs, if_true]
theorem gos_go {f : Nat} (hs : isS f = false) {n : Nat} : goS n f = go n f := by
 funext args bs s
 unfold goS; cases n <;> simp only [runS, hs, Bool.false_eq_true, if_false]
attribute [simp] modeT stP
end Go.VM
