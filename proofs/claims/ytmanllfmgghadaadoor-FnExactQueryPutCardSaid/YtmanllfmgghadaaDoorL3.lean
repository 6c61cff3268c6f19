/- impl.number: a number is read as what its figures are. -/
import Derived.Test.YtmanllfmgghadaaDoorL2
import Derived.Test.YtmanllfmgghadaaDoorN1
import Derived.Lib.AtoiBound
import Derived.WalkKit
import Derived.BigCall
set_option linter.unusedVariables false
set_option linter.unusedSimpArgs false
set_option linter.unusedSectionVars false
namespace Go.Proofs.YtmanllfmgghadaaDoor.PVE
open PV
open Go.RowKit Go.Lib
end Go.Proofs.YtmanllfmgghadaaDoor.PVE
