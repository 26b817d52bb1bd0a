/- Ladders compared, reckoned. Conditions: none. -/
import Derived.Test.YtfpkfcfiihfopaaGreatDoorVQ7

namespace Go.VM
set_option linter.unusedSimpArgs false
set_option linter.unusedVariables false
set_option maxHeartbeats 8000000
end Go.VM
