/- The tables that the program's package-level variables hold. Conditions: none. -/
import Derived.Test.YtfpkfcfiihfopaaDoorXVM30
import Derived.Test.YtfpkfcfiihfopaaDoorXVM29

namespace Go.VM
def ints (l : List Int) : List D := l.map fun n => .s (.int .i64 n)
def sizesD : List D := ints [0, 32, 32, 64, 16, 32, 5, 16, 16, 32, 16]
def wordsD : List D := [.s (.string ⟨#[110, 97, 110]⟩), .s (.string ⟨#[105, 110, 102]⟩), .s (.string ⟨#[45, 105, 110, 102]⟩), .s (.string ⟨#[45, 48, 46, 48]⟩)]
def GT : Nat → Option (List D) := fun g => if g = 2 then some (gRow wordsD) else if g = 3 then some (gRow sizesD) else none
end Go.VM
