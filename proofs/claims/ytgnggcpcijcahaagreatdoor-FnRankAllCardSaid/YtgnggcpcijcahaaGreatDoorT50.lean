/- Sets of numbers: both, either, the one without the other. -/
import Derived.Test.YtgnggcpcijcahaaGreatDoorTI
set_option linter.unusedVariables false
set_option linter.unusedSimpArgs false
set_option maxRecDepth 100000
namespace Go.Proofs.YtgnggcpcijcahaaGreatDoor.PVE
open PV Query
def idsP (rows : List DRow) (p : DRow → Bool) : List Int := (rows.filter p).map (·.id)
theorem idsP_congr {rows : List DRow} {p q : DRow → Bool} (h : ∀ r ∈ rows, p r = q r) : idsP rows p = idsP rows q := by
  rw [idsP, idsP, List.filter_congr h]
theorem idsP_mem {rows : List DRow} {p : DRow → Bool} {n : Int} : n ∈ idsP rows p ↔ ∃ r ∈ rows, p r = true ∧ r.id = n := by
  rw [idsP, List.mem_map]
  constructor
  · rintro ⟨r, h1, h2⟩
    exact ⟨r, (List.mem_filter.1 h1).1, (List.mem_filter.1 h1).2, h2⟩
  · rintro ⟨r, h1, h2, h3⟩
    exact ⟨r, List.mem_filter.2 ⟨h1, h2⟩, h3⟩
theorem idsP_len {fl : List Field} {rows : List DRow} {ents : List Entry} {nx : Int} (h : indexOkS fl rows ents nx = true) (p : DRow → Bool) : (idsP rows p).length ≤ 8 := by
  have := (indexOk_parts h).2.2.1
  have := List.length_filter_le p rows
  rw [idsP, List.length_map]; omega
theorem findA_ids {fl : List Field} {rows : List DRow} {ents : List Entry} {nx : Int} {q : Query} (h : askOk fl rows ents nx q = true) : findA fl rows ents nx q = idsP rows fun r => meetsM fl r.doc q := by rw [findA, if_pos h]; rfl
end Go.Proofs.YtgnggcpcijcahaaGreatDoor.PVE
