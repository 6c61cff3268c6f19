/- Scores: the program's, the reference's; a document by its number. -/
import Derived.Test.YtgnggcpcijcahaaGreatDoorT51
set_option linter.unusedVariables false
set_option linter.unusedSimpArgs false
set_option maxRecDepth 100000
namespace Go.Proofs.YtgnggcpcijcahaaGreatDoor.PVE
open PV Query
def idIx (rows : List DRow) (n : Int) : Int := ixOf (fun r : DRow => decide (r.id = n)) rows
@[go_sem] theorem byId1_R (r : DRow) (n : Int) : R S0 93 [.agg [.int .i64 r.id, .str r.doc.key, .sl (r.doc.cells.map Cell.pv)], .pro [.int .i64 n]] = some ⟨[none, none], .bool (decide (r.id = n))⟩ := by
  refine go93 rfl ?_; simp only [go_sem, ↓reduceIte, Nat.reduceAdd, Nat.reduceSub, Nat.reduceEqDiff, Nat.reduceLT, Nat.reduceLeDiff, Nat.reduceMul, Int.reduceNeg, Int.reduceToNat, Int.reduceEq, Int.reduceLT, Int.reduceLE, reduceCtorEq, Tryz.f93]
@[go_sem] theorem indexId_R (rows : List DRow) (n : Int) (hl : rows.length ≤ 1099511627776) : R S0 92 [.sl (rows.map DRow.pvF), .fn 93 [.pro [.int .i64 n]]] = some ⟨[none, none], .int .i64 (idIx rows n)⟩ := by
  refine go92 rfl ?_; simp only [go_sem, ↓reduceIte, Nat.reduceAdd, Nat.reduceSub, Nat.reduceEqDiff, Nat.reduceLT, Nat.reduceLeDiff, Nat.reduceMul, Int.reduceNeg, Int.reduceToNat, Int.reduceEq, Int.reduceLT, Int.reduceLE, reduceCtorEq, Tryz.f92]
  refine ends_for rows.length (by omega) (fun i _ => mkSt [(0, .sl (rows.map DRow.pvF)), (1, .fn 93 [.pro [.int .i64 n]]), (7, .int .i64 rows.length), (8, .int .i64 i)] []) (fun i _ => ∀ y ∈ rows.take i, decide (y.id = n) = false) 0 () (by omega) (by simp) ?_ ?_
  · rintro i _ hi hI hw ih
    obtain ⟨x, hx, hg, hd⟩ := drop_get hi default
    by_cases h : x.id = n
    · have e : idIx rows n = i := ixOf_at (f := fun r : DRow => decide (r.id = n)) hI hx (by simpa using h)
      simp only [go_sem, ↓reduceIte, Nat.reduceAdd, Nat.reduceSub, Nat.reduceEqDiff, Nat.reduceLT, Nat.reduceLeDiff, Nat.reduceMul, Int.reduceNeg, Int.reduceToNat, Int.reduceEq, Int.reduceLT, Int.reduceLE, reduceCtorEq, hi, hw, hg, hx, eq_true h, e]
    · simp only [go_sem, ↓reduceIte, Nat.reduceAdd, Nat.reduceSub, Nat.reduceEqDiff, Nat.reduceLT, Nat.reduceLeDiff, Nat.reduceMul, Int.reduceNeg, Int.reduceToNat, Int.reduceEq, Int.reduceLT, Int.reduceLE, reduceCtorEq, hi, hw, hg, hx, h]
      exact ih () (take_step hI hx (by simpa using h))
  · rintro _ hI
    rw [List.take_length] at hI
    have e : idIx rows n = -1 := ixOf_no (f := fun r : DRow => decide (r.id = n)) hI
    simp only [go_sem, ↓reduceIte, Nat.reduceAdd, Nat.reduceSub, Nat.reduceEqDiff, Nat.reduceLT, Nat.reduceLeDiff, Nat.reduceMul, Int.reduceNeg, Int.reduceToNat, Int.reduceEq, Int.reduceLT, Int.reduceLE, reduceCtorEq, e]
@[go_sem] theorem byId_R (fl : List Field) (rows : List DRow) (ents : List Entry) (nx : Int) (n : Int) (hl : rows.length ≤ 1099511627776) : R S0 42 [.agg [.sl (fl.map Field.pv), .sl (rows.map DRow.pvF), .sl (ents.map Entry.pvF), .int .i64 nx], .int .i64 n] = some ⟨[none, none], .int .i64 (idIx rows n)⟩ := by
  refine go42 rfl ?_; simp only [go_sem, ↓reduceIte, Nat.reduceAdd, Nat.reduceSub, Nat.reduceEqDiff, Nat.reduceLT, Nat.reduceLeDiff, Nat.reduceMul, Int.reduceNeg, Int.reduceToNat, Int.reduceEq, Int.reduceLT, Int.reduceLE, reduceCtorEq, Tryz.f42, hl]
theorem idIx_at {rows : List DRow} (hp : rows.Pairwise (fun a b => a.id < b.id)) {r : DRow} (hr : r ∈ rows) : ∃ i : Nat, i < rows.length ∧ idIx rows r.id = i ∧ rows[i]? = some r := by
  obtain ⟨i, hi, rfl⟩ := List.getElem_of_mem hr
  refine ⟨i, hi, ixOf_at (f := fun x : DRow => decide (x.id = rows[i].id)) (fun y hy => ?_) (List.getElem?_eq_getElem hi) (by simp), List.getElem?_eq_getElem hi⟩
  obtain ⟨j, hj, rfl⟩ := List.getElem_of_mem hy
  have hj2 : j < i := by simp only [List.length_take] at hj; omega
  rw [List.getElem_take]
  have := (List.pairwise_iff_getElem.1 hp) j i (by omega) hi hj2
  simp only [decide_eq_false_iff_not]
  omega
end Go.Proofs.YtgnggcpcijcahaaGreatDoor.PVE
