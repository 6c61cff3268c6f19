/- The reference's reader of questions: any text; the text of a question. -/
import Derived.Test.YtmanllfmgghadaaDoorT85
set_option linter.unusedVariables false
set_option linter.unusedSimpArgs false
set_option maxRecDepth 100000
namespace Go.Proofs.YtmanllfmgghadaaDoor.PVE
open PV Query
end Go.Proofs.YtmanllfmgghadaaDoor.PVE
