/- Who is alike: the reference; the law. -/
import Derived.Test.YtmanllfmgghadaaGreatDoorTI
set_option linter.unusedVariables false
set_option linter.unusedSimpArgs false
set_option maxRecDepth 100000
namespace Go.Proofs.YtmanllfmgghadaaGreatDoor.PVE
open PV Query
end Go.Proofs.YtmanllfmgghadaaGreatDoor.PVE
