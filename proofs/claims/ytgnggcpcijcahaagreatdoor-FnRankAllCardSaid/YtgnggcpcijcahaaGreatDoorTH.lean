/- Drawn indexes with a document, or a key; the laws of putting in and taking out. -/
import Derived.Test.YtgnggcpcijcahaaGreatDoorTG
set_option linter.unusedVariables false
set_option linter.unusedSimpArgs false
set_option maxRecDepth 100000
namespace Go.Proofs.YtgnggcpcijcahaaGreatDoor.PVE
open PV Query
end Go.Proofs.YtgnggcpcijcahaaGreatDoor.PVE
