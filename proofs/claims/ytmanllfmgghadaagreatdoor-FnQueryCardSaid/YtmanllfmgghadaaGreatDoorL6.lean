/- slices.SortFunc at hits: what it answers, over pure values. -/
import Derived.Test.YtmanllfmgghadaaGreatDoorL4
set_option linter.unusedVariables false
set_option linter.unusedSimpArgs false
namespace Go.Proofs.YtmanllfmgghadaaGreatDoor.PVE
open PV
end Go.Proofs.YtmanllfmgghadaaGreatDoor.PVE
