/- What the ends of all of the seat's laws ask for. Conditions: none. -/
import Derived.Test.YthkednnfadhidaaVMT
import Derived.Test.YthkednnfadhidaaVT1
import Derived.Test.YthkednnfadhidaaRows
import Derived.WalkKit
import Derived.ProofKit

namespace Go.Proofs.Ythkednnfadhidaa
open Go.ChangeShapes Go.WideShapes Go.ChangeAt Go.RowKit Go.VM

theorem own : ownKnob Try.prog.godebug = none := by kernel_rfl
theorem laidOut : laidOutB Try.prog = true := by kernel_rfl
theorem noGlob (W : World) : Glob (fun _ => none) (ctx0 W) := fun g row h => by cases h

end Go.Proofs.Ythkednnfadhidaa
