/- Keys: the program's and the reference's. -/
import Derived.Test.YtjagjfjhinlgiaaGreatDoorT39
set_option linter.unusedVariables false
set_option linter.unusedSimpArgs false
set_option maxRecDepth 100000
namespace Go.Proofs.YtjagjfjhinlgiaaGreatDoor.PVE
open PV Query
@[go_sem] theorem indexI_R (l : List Int) (s : Int) (hl : l.length ≤ 1099511627776) : R S0 107 [.sl (l.map (PV.int .i64)), .int .i64 s] = some ⟨[none, none], .int .i64 (if l.contains s = true then (l.idxOf s : Int) else -1)⟩ := by
  refine go107 rfl ?_; simp only [go_sem, ↓reduceIte, Nat.reduceAdd, Nat.reduceSub, Nat.reduceEqDiff, Nat.reduceLT, Nat.reduceLeDiff, Nat.reduceMul, Int.reduceNeg, Int.reduceToNat, Int.reduceEq, Int.reduceLT, Int.reduceLE, reduceCtorEq, Tryz.f107]
  refine ends_for l.length (by omega) (fun i _ => mkSt [(0, .sl (l.map (PV.int .i64))), (1, .int .i64 s), (7, .int .i64 l.length), (8, .int .i64 i)] []) (fun i _ => s ∉ l.take i) 0 () (by omega) (by simp) ?_ ?_
  · intro i _ hi hI hw ih
    obtain ⟨x, hx, hg, hd⟩ := drop_get hi default
    have hlx : l = l.take i ++ x :: l.drop (i + 1) := by rw [← hd, List.take_append_drop]
    simp only [go_sem, ↓reduceIte, Nat.reduceAdd, Nat.reduceSub, Nat.reduceEqDiff, Nat.reduceLT, Nat.reduceLeDiff, Nat.reduceMul, Int.reduceNeg, Int.reduceToNat, Int.reduceEq, Int.reduceLT, Int.reduceLE, reduceCtorEq, hi, hw, hg]
    refine ⟨fun h => ?_, fun h => ih () ?_⟩
    · subst h
      have h1 : l.contains s = true := by rw [hlx]; simp
      have h2 : l.idxOf s = i := by
        rw [hlx, List.idxOf_append, if_neg hI]
        simp [Nat.min_eq_left (Nat.le_of_lt hi)]
      rw [if_pos h1, h2]
    · rw [List.take_add_one, hx]
      simp [hI, h]
  · intro _ hI
    simp only [go_sem, ↓reduceIte, Nat.reduceAdd, Nat.reduceSub, Nat.reduceEqDiff, Nat.reduceLT, Nat.reduceLeDiff, Nat.reduceMul, Int.reduceNeg, Int.reduceToNat, Int.reduceEq, Int.reduceLT, Int.reduceLE, reduceCtorEq]
    simp at hI
    simp [hI]
@[go_sem] theorem containsI_R (l : List Int) (s : Int) (hl : l.length ≤ 1099511627776) : R S0 59 [.sl (l.map (PV.int .i64)), .int .i64 s] = some ⟨[none, none], .bool (l.contains s)⟩ := by
  refine go59 rfl ?_; simp only [go_sem, ↓reduceIte, Nat.reduceAdd, Nat.reduceSub, Nat.reduceEqDiff, Nat.reduceLT, Nat.reduceLeDiff, Nat.reduceMul, Int.reduceNeg, Int.reduceToNat, Int.reduceEq, Int.reduceLT, Int.reduceLE, reduceCtorEq, Tryz.f59, hl]
  cases h : l.contains s <;> simp
def keysS (fl : List Field) (rows : List DRow) (ents : List Entry) (nx : Int) (ids : List Int) : List Str := if indexOkS fl rows ents nx = true then (rows.filter fun r => ids.contains r.id).map (·.doc.key) else []
@[go_sem] theorem implKeys_R (fl : List Field) (rows : List DRow) (ents : List Entry) (nx : Int) (ids : List Int) (hfl : FSm fl) (hr : RowsM rows) (he : EntSm ents) (hn : -9223372036854775807 ≤ nx ∧ nx ≤ 9223372036854775807) (hi : ids.length ≤ 1099511627776) : R S0 18 [.agg [.sl (fl.map Field.pv), .sl (rows.map DRow.pvF), .sl (ents.map Entry.pvF), .int .i64 nx], .sl (ids.map (PV.int .i64))] = some ⟨[none, none], .slo 1 ((keysS fl rows ents nx ids).map .str)⟩ := by
  cases h : indexOkS fl rows ents nx with
  | false => 
    rw [keysS, h, if_neg (by simp)]
    refine go18 rfl ?_; simp only [go_sem, ↓reduceIte, Nat.reduceAdd, Nat.reduceSub, Nat.reduceEqDiff, Nat.reduceLT, Nat.reduceLeDiff, Nat.reduceMul, Int.reduceNeg, Int.reduceToNat, Int.reduceEq, Int.reduceLT, Int.reduceLE, reduceCtorEq, Tryz.f18, hfl, hr, he, hn, h]
  | true =>
    rw [keysS, h, if_pos rfl]
    have hl : rows.length ≤ 1099511627776 := hr.1
    refine go18 rfl ?_; simp only [go_sem, ↓reduceIte, Nat.reduceAdd, Nat.reduceSub, Nat.reduceEqDiff, Nat.reduceLT, Nat.reduceLeDiff, Nat.reduceMul, Int.reduceNeg, Int.reduceToNat, Int.reduceEq, Int.reduceLT, Int.reduceLE, reduceCtorEq, Tryz.f18, hfl, hr, he, hn, h]
    refine ends_for rows.length (by omega) (fun i _ => mkSt [(1, .sl (ids.map (PV.int .i64))), (5, .own 0), (14, .sl (rows.map DRow.pvF)), (15, .int .i64 rows.length), (16, .int .i64 i)] [.slo 1 ((((rows.take i).filter fun r => ids.contains r.id).map (·.doc.key)).map .str)]) (fun _ _ => True) 0 () (by omega) trivial ?_ ?_
    · rintro i _ hj _ hw ih
      obtain ⟨x, hx, hg, hd⟩ := drop_get hj default
      have hle : (((rows.take i).filter fun r => ids.contains r.id).map (·.doc.key)).length ≤ 1099511627776 := by
        have := List.length_filter_le (fun r : DRow => ids.contains r.id) (rows.take i)
        simp only [List.length_map, List.length_take] at this ⊢; omega
      have ih' := ih () trivial
      rw [List.take_add_one, hx] at ih'
      cases c : ids.contains x.id with
      | false =>
        rw [show ((rows.take i ++ (some x).toList).filter fun r => ids.contains r.id) = (rows.take i).filter fun r => ids.contains r.id by rw [List.filter_append]; simp only [Option.toList, List.filter_cons, c, List.filter_nil]; simp] at ih'
        simp only [go_sem, ↓reduceIte, Nat.reduceAdd, Nat.reduceSub, Nat.reduceEqDiff, Nat.reduceLT, Nat.reduceLeDiff, Nat.reduceMul, Int.reduceNeg, Int.reduceToNat, Int.reduceEq, Int.reduceLT, Int.reduceLE, reduceCtorEq, hj, hw, hg, c, hi]
        exact ih'
      | true =>
        rw [show ((rows.take i ++ (some x).toList).filter fun r => ids.contains r.id) = ((rows.take i).filter fun r => ids.contains r.id) ++ [x] by rw [List.filter_append]; simp only [Option.toList, List.filter_cons, c, List.filter_nil]; rfl, List.map_append] at ih'
        simp only [go_sem, ↓reduceIte, Nat.reduceAdd, Nat.reduceSub, Nat.reduceEqDiff, Nat.reduceLT, Nat.reduceLeDiff, Nat.reduceMul, Int.reduceNeg, Int.reduceToNat, Int.reduceEq, Int.reduceLT, Int.reduceLE, reduceCtorEq, hj, hw, hg, c, hi]
        rw [List.length_map] at hle
        exact ⟨by omega, ih'⟩
    · rintro _ _
      rw [List.take_length]
      simp only [go_sem, ↓reduceIte, Nat.reduceAdd, Nat.reduceSub, Nat.reduceEqDiff, Nat.reduceLT, Nat.reduceLeDiff, Nat.reduceMul, Int.reduceNeg, Int.reduceToNat, Int.reduceEq, Int.reduceLT, Int.reduceLE, reduceCtorEq]
end Go.Proofs.YtjagjfjhinlgiaaGreatDoor.PVE
