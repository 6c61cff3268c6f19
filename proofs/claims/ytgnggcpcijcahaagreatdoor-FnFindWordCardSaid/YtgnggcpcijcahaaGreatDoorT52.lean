/- Sets of what is found; the order of putting in; fields: laws of finding. -/
import Derived.Test.YtgnggcpcijcahaaGreatDoorT51
import Derived.Test.YtgnggcpcijcahaaGreatDoorTH
set_option linter.unusedVariables false
set_option linter.unusedSimpArgs false
set_option maxRecDepth 100000
namespace Go.Proofs.YtgnggcpcijcahaaGreatDoor.PVE
open PV Query
end Go.Proofs.YtgnggcpcijcahaaGreatDoor.PVE
