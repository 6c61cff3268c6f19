/- slices.SortFunc at hits: what it answers, over pure values. -/
import Derived.Test.YtgnggcpcijcahaaGreatDoorL4
set_option linter.unusedVariables false
set_option linter.unusedSimpArgs false
namespace Go.Proofs.YtgnggcpcijcahaaGreatDoor.PVE
open PV
end Go.Proofs.YtgnggcpcijcahaaGreatDoor.PVE
