/- slices.SortFunc at structs, as a contract over pure values: the elements sorted by a key that parts them all. -/
import Derived.Test.YtmanllfmgghadaaGreatDoorL2
import Derived.Shelf.SlSortCmp.WholeK
import Derived.Shelf.SlSortCmp.NoneTotal
set_option linter.unusedVariables false
set_option linter.unusedSimpArgs false
set_option linter.unusedSectionVars false
namespace Go.Proofs.YtmanllfmgghadaaGreatDoor.PVE
open PV
open Go.RowKit Go.Lib Go.Sort Go.Shelf
section
variable {κ : Type} {lt : κ → κ → Bool} {kp : PV → κ}
end
section
variable {α : Type} [Inhabited α] {enc : α → List Value} {k : Nat}
end
end Go.Proofs.YtmanllfmgghadaaGreatDoor.PVE
