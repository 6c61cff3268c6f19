/- Drawn scores; what is not found has no score; what is looked for twice: laws. -/
import Derived.Test.YtgnggcpcijcahaaGreatDoorT60
set_option linter.unusedVariables false
set_option linter.unusedSimpArgs false
set_option maxRecDepth 100000
namespace Go.Proofs.YtgnggcpcijcahaaGreatDoor.PVE
open PV Query
end Go.Proofs.YtgnggcpcijcahaaGreatDoor.PVE
