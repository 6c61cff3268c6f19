/- The reference's reader of questions: its words. -/
import Derived.Test.YtmanllfmgghadaaDoorT84
set_option linter.unusedVariables false
set_option linter.unusedSimpArgs false
set_option maxRecDepth 100000
namespace Go.Proofs.YtmanllfmgghadaaDoor.PVE
open PV Query
end Go.Proofs.YtmanllfmgghadaaDoor.PVE
