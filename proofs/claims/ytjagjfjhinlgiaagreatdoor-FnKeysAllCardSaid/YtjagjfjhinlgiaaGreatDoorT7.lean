/- Sizes, copies and comparisons of fields and questions. -/
import Derived.Test.YtjagjfjhinlgiaaGreatDoorT4
set_option linter.unusedVariables false
set_option linter.unusedSimpArgs false
set_option maxRecDepth 100000
namespace Go.Proofs.YtjagjfjhinlgiaaGreatDoor.PVE
open PV Query
mutual
/-- How much a question holds. -/
def tot : Query → Nat | .mk _ f t _ _ p => f.length + t.length + totL p
def totL : List Query → Nat
  | [] => 0
  | q :: l => tot q + 1 + totL l
end
theorem tot_eq : ∀ q : Query, tot q = q.field.length + q.text.length + totL q.parts
  | .mk _ f t _ _ p => by rw [tot]; rfl
theorem totL_app : ∀ (l m : List Query), totL (l ++ m) = totL l + totL m
  | [], m => by simp [totL]
  | q :: l, m => by rw [List.cons_append, totL, totL, totL_app l m]; omega
theorem totL_len : ∀ l : List Query, l.length ≤ totL l
  | [] => Nat.le_refl _
  | q :: l => by have := totL_len l; rw [totL, List.length_cons]; omega
theorem totL_mem : ∀ {l : List Query} {q : Query}, q ∈ l → tot q ≤ totL l
  | x :: l, q, h => by
    rw [totL]
    rcases List.mem_cons.1 h with rfl | h
    · omega
    · have := totL_mem h; omega
/-- Its texts and lists are of sizes that exist. -/
inductive Query.Lm : Query → Prop
  | mk (q : Query) (hf : q.field.length ≤ 9223372036854775807) (ht : q.text.length ≤ 9223372036854775807) (hp : q.parts.length ≤ 9223372036854775807) (h : ∀ p ∈ q.parts, p.Lm) : q.Lm
theorem sm_of_tot (q : Query) (h : tot q ≤ 1099511627776) : q.Sm := by
  refine Query.ind (P := fun q => tot q ≤ 1099511627776 → q.Sm) (fun q ih h => ?_) q h
  rw [tot_eq] at h
  have := totL_len q.parts
  exact ⟨q, by omega, by omega, by omega, fun p hp => ih p hp (by have := totL_mem hp; omega)⟩
def szQ (q : Query) (left : Int) : Int := if (tot q : Int) ≤ left then left - tot q else -1
def szQS (l : List Query) (left : Int) : Int := if (totL l : Int) ≤ left then left - totL l else -1
/-- An empty question. -/
def zeroQ : Query := .mk 0 [] [] 0 0 []
/-! ### Fields -/
def totF : List Field → Nat
  | [] => 0
  | f :: l => f.name.length + 1 + totF l
theorem totF_app : ∀ (l m : List Field), totF (l ++ m) = totF l + totF m
  | [], m => by simp [totF]
  | q :: l, m => by rw [List.cons_append, totF, totF, totF_app l m]; omega
theorem totF_len : ∀ l : List Field, l.length ≤ totF l
  | [] => Nat.le_refl _
  | q :: l => by have := totF_len l; rw [totF, List.length_cons]; omega
theorem totF_mem : ∀ {l : List Field} {q : Field}, q ∈ l → q.name.length ≤ totF l
  | x :: l, q, h => by
    rw [totF]
    rcases List.mem_cons.1 h with rfl | h
    · omega
    · have := totF_mem h; omega
theorem fsm_of_tot {l : List Field} (h : totF l ≤ 1099511627776) : FSm l := ⟨by have := totF_len l; omega, fun f hf => by have := totF_mem hf; omega⟩
def szFS (l : List Field) (left : Int) : Int := if (totF l : Int) ≤ left then left - totF l else -1
end Go.Proofs.YtjagjfjhinlgiaaGreatDoor.PVE
