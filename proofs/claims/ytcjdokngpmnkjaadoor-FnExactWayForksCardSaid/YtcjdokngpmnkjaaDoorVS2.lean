/- Draws: a number out of a code, reckoned. Conditions: none. -/
import Derived.Test.YtcjdokngpmnkjaaDoorVB0
import Derived.Test.YtcjdokngpmnkjaaDoorVQ9

namespace Go.VM
set_option linter.unusedSimpArgs false
set_option linter.unusedVariables false
set_option maxHeartbeats 4000000

end Go.VM

/- Draws: numbers and operands out of a code; they come to an end and are of their shape. Conditions: none. -/
namespace Go.VM
set_option linter.unusedSimpArgs false
set_option linter.unusedVariables false
set_option maxHeartbeats 8000000

end Go.VM

/- Draws: coils, and what is spoilt; they come to an end and are of their shape. Conditions: none. -/
namespace Go.VM
set_option linter.unusedSimpArgs false
set_option linter.unusedVariables false
set_option maxHeartbeats 8000000

theorem len_of3 (l : List Arg) : ∀ x ∈ argRows l, x.length = 3 := fun x hx => by
  simp only [argRows, List.mem_map] at hx
  obtain ⟨a, _, rfl⟩ := hx
  rfl
end Go.VM
