/- slices.SortFunc at hits: what it answers, over pure values. -/
import Derived.Test.YtmanllfmgghadaaDoorL4
set_option linter.unusedVariables false
set_option linter.unusedSimpArgs false
namespace Go.Proofs.YtmanllfmgghadaaDoor.PVE
open PV
end Go.Proofs.YtmanllfmgghadaaDoor.PVE
