/- Documents: the reference's functions. -/
import Derived.Test.YtmanllfmgghadaaDoorT14
import Derived.Test.YtmanllfmgghadaaDoorT10
set_option linter.unusedVariables false
set_option linter.unusedSimpArgs false
set_option maxRecDepth 100000
namespace Go.Proofs.YtmanllfmgghadaaDoor.PVE
open PV
end Go.Proofs.YtmanllfmgghadaaDoor.PVE
