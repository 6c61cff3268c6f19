/- The rows' common part for documents. -/
import Derived.Test.YtmanllfmgghadaaGreatDoorC0
import Derived.Test.YtmanllfmgghadaaGreatDoorT18
namespace Go.Proofs.YtmanllfmgghadaaGreatDoor.PVE
open PV
set_option linter.unusedVariables false
set_option linter.unusedSimpArgs false
set_option maxRecDepth 100000
theorem cell_of {n : Nat} {x : PV} (h : Ty Tryz.prog n 177 x) : ∃ f : Cell, x = f.pv ∧ (f.name.length ≤ 9223372036854775807 ∧ f.text.length ≤ 9223372036854775807) := by
  cases n with
  | zero => exact h.elim
  | succ n =>
    simp only [Ty, Tryz.underlying177] at h
    obtain ⟨ps, rfl, hl, hf⟩ := h
    match ps, hl with
    | [p0, p1], _ =>
      obtain ⟨s, rfl, hs⟩ := str_of (hf 0 _ p0 rfl rfl)
      obtain ⟨t, rfl, ht⟩ := str_of (hf 1 _ p1 rfl rfl)
      exact ⟨⟨s, t⟩, rfl, hs, ht⟩
theorem doc_of (n : Nat) (x : PV) (h : Ty Tryz.prog n 63 x) : ∃ d : Doc, x = .agg [.str d.key, .sl (d.cells.map Cell.pv)] ∧ DLm d := by
  cases n with
  | zero => exact h.elim
  | succ n =>
    simp only [Ty, Tryz.underlying63] at h
    obtain ⟨ps, rfl, hl, hf⟩ := h
    match ps, hl with
    | [p0, p1], _ =>
      obtain ⟨s, rfl, hs⟩ := str_of (hf 0 _ p0 rfl rfl)
      have h5 := hf 1 _ p1 rfl rfl
      cases n with
      | zero => exact h5.elim
      | succ n =>
        simp only [Ty, Tryz.underlying61] at h5
        obtain ⟨es, rfl, hl, he⟩ := h5
        obtain ⟨l, rfl, hq⟩ := lift_with (f := Cell.pv) fun x hx => cell_of (he x hx)
        exact ⟨⟨s, l⟩, rfl, hs, by simpa [maxLen] using hl, hq⟩
end Go.Proofs.YtmanllfmgghadaaGreatDoor.PVE
