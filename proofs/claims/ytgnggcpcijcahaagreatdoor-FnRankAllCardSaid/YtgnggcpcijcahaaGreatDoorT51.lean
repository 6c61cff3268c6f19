/- What is not looked for; one document more, one less: laws of finding. -/
import Derived.Test.YtgnggcpcijcahaaGreatDoorT50
set_option linter.unusedVariables false
set_option linter.unusedSimpArgs false
set_option maxRecDepth 100000
namespace Go.Proofs.YtgnggcpcijcahaaGreatDoor.PVE
open PV Query
theorem ask_of {fl : List Field} {rows : List DRow} {ents : List Entry} {nx : Int} {q : Query} (h1 : indexOkS fl rows ents nx = true) (h2 : fitsQ fl q = true) : askOk fl rows ents nx q = true := by
  rw [fitsQ] at h2
  rw [askOk, h1, h2]; rfl
end Go.Proofs.YtgnggcpcijcahaaGreatDoor.PVE
