/- Drawn documents. -/
import Derived.Test.YtmanllfmgghadaaGreatDoorT4
import Derived.Test.YtmanllfmgghadaaGreatDoorT15
set_option linter.unusedVariables false
set_option linter.unusedSimpArgs false
set_option maxRecDepth 100000
namespace Go.Proofs.YtmanllfmgghadaaGreatDoor.PVE
open PV
def DSt (k : Nat) (d : Doc) : Prop := d.key.length ≤ 1000 ∧ d.cells.length ≤ k ∧ ∀ c ∈ d.cells, c.name.length ≤ 1000 ∧ c.text.length ≤ 1000
theorem DSt.sm {k : Nat} {d : Doc} (hk : k ≤ 1000) (h : DSt k d) : DSm d := ⟨by have := h.1; omega, by have := h.2.1; omega, fun c hc => by have := h.2.2 c hc; omega⟩
end Go.Proofs.YtmanllfmgghadaaGreatDoor.PVE
