/- Documents: sizes, copies, equality; the exact law of numbers. -/
import Derived.Test.YtanbccpabgcmaaaGreatDoorT7
import Derived.Test.YtanbccpabgcmaaaGreatDoorT15
set_option linter.unusedVariables false
set_option linter.unusedSimpArgs false
set_option maxRecDepth 100000
namespace Go.Proofs.YtanbccpabgcmaaaGreatDoor.PVE
open PV
def totC : List Cell → Nat
  | [] => 0
  | f :: l => f.name.length + f.text.length + 1 + totC l
theorem totC_app : ∀ (l m : List Cell), totC (l ++ m) = totC l + totC m
  | [], m => by simp [totC]
  | q :: l, m => by rw [List.cons_append, totC, totC, totC_app l m]; omega
theorem totC_len : ∀ l : List Cell, l.length ≤ totC l
  | [] => Nat.le_refl _
  | q :: l => by have := totC_len l; rw [totC, List.length_cons]; omega
theorem totC_mem : ∀ {l : List Cell} {q : Cell}, q ∈ l → q.name.length + q.text.length ≤ totC l
  | x :: l, q, h => by
    rw [totC]
    rcases List.mem_cons.1 h with rfl | h
    · omega
    · have := totC_mem h; omega
def totD (d : Doc) : Nat := d.key.length + totC d.cells
/-- Its texts and lists are of lengths that there are. -/
def DLm (d : Doc) : Prop := d.key.length ≤ 9223372036854775807 ∧ d.cells.length ≤ 9223372036854775807 ∧ ∀ c ∈ d.cells, c.name.length ≤ 9223372036854775807 ∧ c.text.length ≤ 9223372036854775807
theorem dsm_of_tot {d : Doc} (h : totD d ≤ 549755813888) : DSm d := by
  unfold totD at h
  have := totC_len d.cells
  exact ⟨by omega, by omega, fun f hf => by have := totC_mem hf; omega⟩
def szCS (l : List Cell) (left : Int) : Int := if (totC l : Int) ≤ left then left - totC l else -1
def szD (d : Doc) (left : Int) : Int := if (totD d : Int) ≤ left then left - totD d else -1
end Go.Proofs.YtanbccpabgcmaaaGreatDoor.PVE
