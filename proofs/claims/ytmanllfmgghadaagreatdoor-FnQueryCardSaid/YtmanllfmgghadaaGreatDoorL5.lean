/- slices.Sort, slices.Compact at numbers: the shelf's contracts, as contracts over pure values. -/
import Derived.Test.YtmanllfmgghadaaGreatDoorL4
import Derived.Test.YtmanllfmgghadaaGreatDoorS1
import Derived.Lib.SlicesCompact
set_option linter.unusedVariables false
set_option linter.unusedSimpArgs false
set_option linter.unusedSectionVars false
namespace Go.Proofs.YtmanllfmgghadaaGreatDoor.PVE
open PV
open Go.RowKit Go.Lib Go.Sort
section
variable {w : World} {R : Nat → Prop} {σ : Nat → Option Hd}
end
end Go.Proofs.YtmanllfmgghadaaGreatDoor.PVE
