/- Comparisons of what is the same; drawn numbers and keys; the law of keys. -/
import Derived.Test.YtmanllfmgghadaaGreatDoorTF
set_option linter.unusedVariables false
set_option linter.unusedSimpArgs false
set_option maxRecDepth 100000
namespace Go.Proofs.YtmanllfmgghadaaGreatDoor.PVE
open PV Query
end Go.Proofs.YtmanllfmgghadaaGreatDoor.PVE
namespace Go.Proofs.YtmanllfmgghadaaGreatDoor.PVE
open PV Query
theorem key_at {rows : List DRow} (hp : rows.Pairwise (fun a b => a.doc.key ≠ b.doc.key)) {r : DRow} (hr : r ∈ rows) : ∃ i : Nat, i < rows.length ∧ keyIx rows r.doc.key = i ∧ rows[i]? = some r := by
  obtain ⟨i, hi, rfl⟩ := List.getElem_of_mem hr
  refine ⟨i, hi, (keyIx_at hi).2 fun j hj => ?_, List.getElem?_eq_getElem hi⟩
  exact (List.pairwise_iff_getElem.1 hp) j i (by omega) hi hj
end Go.Proofs.YtmanllfmgghadaaGreatDoor.PVE
