/- Comparisons of what is the same; drawn numbers and keys; the law of keys. -/
import Derived.Test.YtjagjfjhinlgiaaGreatDoorT40
set_option linter.unusedVariables false
set_option linter.unusedSimpArgs false
set_option maxRecDepth 100000
namespace Go.Proofs.YtjagjfjhinlgiaaGreatDoor.PVE
open PV Query
@[go_sem] theorem sdInts_R (a : List Int) (ha : a.length ≤ 1099511627776) : R S0 24 [.sl (a.map (PV.int .i64)), .sl (a.map (PV.int .i64))] = some ⟨[none, none], .bool true⟩ := by
  refine go24 rfl ?_; simp only [go_sem, ↓reduceIte, Nat.reduceAdd, Nat.reduceSub, Nat.reduceEqDiff, Nat.reduceLT, Nat.reduceLeDiff, Nat.reduceMul, Int.reduceNeg, Int.reduceToNat, Int.reduceEq, Int.reduceLT, Int.reduceLE, reduceCtorEq, Tryz.f24]
  refine ends_for a.length (by omega) (fun i _ => mkSt [(0, .sl (a.map (PV.int .i64))), (1, .sl (a.map (PV.int .i64))), (5, .int .i64 i)] []) (fun _ _ => True) 0 () (by omega) trivial ?_ ?_
  · rintro i _ hi - hw ih
    obtain ⟨x, hx, hg, hd⟩ := drop_get hi default
    have ih' := ih () trivial
    simp only [go_sem, ↓reduceIte, Nat.reduceAdd, Nat.reduceSub, Nat.reduceEqDiff, Nat.reduceLT, Nat.reduceLeDiff, Nat.reduceMul, Int.reduceNeg, Int.reduceToNat, Int.reduceEq, Int.reduceLT, Int.reduceLE, reduceCtorEq, hi, hw, hg, hx]
    exact ih'
  · rintro _ -
    simp only [go_sem, ↓reduceIte, Nat.reduceAdd, Nat.reduceSub, Nat.reduceEqDiff, Nat.reduceLT, Nat.reduceLeDiff, Nat.reduceMul, Int.reduceNeg, Int.reduceToNat, Int.reduceEq, Int.reduceLT, Int.reduceLE, reduceCtorEq]
@[go_sem] theorem sdDocI_R (d : Doc) (hd : d.cells.length ≤ 1099511627776) : R S0 33 [.agg [.str d.key, .sl (d.cells.map Cell.pv)], .agg [.str d.key, .sl (d.cells.map Cell.pv)]] = some ⟨[none, none], .bool true⟩ := by
  refine go33 rfl ?_; simp only [go_sem, ↓reduceIte, Nat.reduceAdd, Nat.reduceSub, Nat.reduceEqDiff, Nat.reduceLT, Nat.reduceLeDiff, Nat.reduceMul, Int.reduceNeg, Int.reduceToNat, Int.reduceEq, Int.reduceLT, Int.reduceLE, reduceCtorEq, Tryz.f33]
  refine ends_for d.cells.length (by omega) (fun i _ => mkSt [(2, .addr 0 0 0), (3, .addr 1 0 0), (5, .int .i64 i)] [.pto [.str d.key, .sl (d.cells.map Cell.pv)], .pto [.str d.key, .sl (d.cells.map Cell.pv)]]) (fun _ _ => True) 0 () (by omega) trivial ?_ ?_
  · rintro i _ hi - hw ih
    obtain ⟨x, hx, hg, hd⟩ := drop_get hi default
    have ih' := ih () trivial
    simp only [go_sem, ↓reduceIte, Nat.reduceAdd, Nat.reduceSub, Nat.reduceEqDiff, Nat.reduceLT, Nat.reduceLeDiff, Nat.reduceMul, Int.reduceNeg, Int.reduceToNat, Int.reduceEq, Int.reduceLT, Int.reduceLE, reduceCtorEq, hi, hw, hg, hx]
    exact ih'
  · rintro _ -
    simp only [go_sem, ↓reduceIte, Nat.reduceAdd, Nat.reduceSub, Nat.reduceEqDiff, Nat.reduceLT, Nat.reduceLeDiff, Nat.reduceMul, Int.reduceNeg, Int.reduceToNat, Int.reduceEq, Int.reduceLT, Int.reduceLE, reduceCtorEq]
def IdsPost (b : Str) (p c m : Nat) (r : Ans) : Prop := ∃ ids : List Int, ∃ p' : Nat, r = ⟨[some (.pto [.sl (b.map bytePV), .int .i64 (p' : Nat)]), none], .slo 1 (ids.map (PV.int .i64))⟩ ∧ p ≤ p' ∧ p' ≤ p + c ∧ ids.length ≤ m
def DKPost (r : Ans) : Prop := ∃ fl : List Field, ∃ rows : List DRow, ∃ ents : List Entry, ∃ nx : Int, ∃ ids : List Int, r = ⟨[none], .tup [.agg [.sl (fl.map Field.pv), .sl (rows.map DRow.pvF), .sl (ents.map Entry.pvF), .int .i64 nx], .sl (ids.map (PV.int .i64))]⟩ ∧ FSm fl ∧ RowsS 21 5 rows ∧ EntSm ents ∧ -1 ≤ nx ∧ nx ≤ 999999999 ∧ ids.length ≤ 22
theorem filtM_at {α β : Type} {p : α → Bool} {f : α → β} {rows : List α} {i : Nat} {x : α} (hx : rows[i]? = some x) (hp : p x = true) : ((rows.filter p).map f)[((rows.take i).filter p).length]? = some (f x) := by
  have hi : i < rows.length := by
    rcases Nat.lt_or_ge i rows.length with h | h
    · exact h
    · rw [List.getElem?_eq_none h] at hx; cases hx
  have hx2 : rows[i] = x := by rw [List.getElem?_eq_getElem hi] at hx; exact Option.some.inj hx
  have e : rows = rows.take i ++ x :: rows.drop (i + 1) := by
    rw [← hx2, ← List.drop_eq_getElem_cons hi, List.take_append_drop]
  conv => lhs; lhs; rw [e]
  rw [List.filter_append, List.filter_cons_of_pos hp, List.map_append, List.getElem?_append_right (by simp)]
  simp
theorem filtM_lt {α β : Type} {p : α → Bool} {f : α → β} {rows : List α} {i : Nat} {x : α} (hx : rows[i]? = some x) (hp : p x = true) : ((rows.take i).filter p).length < ((rows.filter p).map f).length := by
  have := filtM_at (f := f) hx hp
  rcases Nat.lt_or_ge ((rows.take i).filter p).length ((rows.filter p).map f).length with h | h
  · exact h
  · rw [List.getElem?_eq_none h] at this; cases this
end Go.Proofs.YtjagjfjhinlgiaaGreatDoor.PVE
