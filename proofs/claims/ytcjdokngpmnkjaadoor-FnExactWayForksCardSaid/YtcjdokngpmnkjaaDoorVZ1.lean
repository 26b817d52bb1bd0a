/- Ladders compared, as the document has it. Conditions: none. -/
import Derived.Test.YtcjdokngpmnkjaaDoorVQ9

namespace Go.VM
set_option linter.unusedSimpArgs false
set_option linter.unusedVariables false
set_option maxHeartbeats 16000000

end Go.VM
