/- The index: the program's comparison of entries, and its sort. -/
import Derived.Test.YtjagjfjhinlgiaaGreatDoorT28
set_option linter.unusedVariables false
set_option linter.unusedSimpArgs false
set_option maxRecDepth 100000
namespace Go.Proofs.YtjagjfjhinlgiaaGreatDoor.PVE
open PV
def cmpS (a b : Str) : Int := if Op.bytesLess a b = true then -1 else if a = b then 0 else 1
def cfE (p q : Str × Str) : Int := if cmpS p.1 q.1 = 0 then cmpS p.2 q.2 else cmpS p.1 q.1
@[go_sem] theorem isNaN_C (s : Str) : R SC 138 [.str s] = some ⟨[none], .bool false⟩ := by
  refine goC138 rfl ?_
  simp only [go_sem, ↓reduceIte, Nat.reduceAdd, Nat.reduceSub, Nat.reduceEqDiff, Nat.reduceLT, Nat.reduceLeDiff, Nat.reduceMul, Int.reduceNeg, Int.reduceToNat, Int.reduceEq, Int.reduceLT, Int.reduceLE, reduceCtorEq, Tryz.f138]
@[go_sem] theorem compare_C (a b : Str) : R SC 98 [.str a, .str b] = some ⟨[none, none], .int .i64 (cmpS a b)⟩ := by
  refine goC98 rfl ?_
  cases h : Op.bytesLess a b with
  | true =>
    simp only [go_sem, ↓reduceIte, Nat.reduceAdd, Nat.reduceSub, Nat.reduceEqDiff, Nat.reduceLT, Nat.reduceLeDiff, Nat.reduceMul, Int.reduceNeg, Int.reduceToNat, Int.reduceEq, Int.reduceLT, Int.reduceLE, reduceCtorEq, Tryz.f98, h]
    simp [cmpS, h]
  | false =>
    by_cases he : a = b
    · subst he
      simp only [go_sem, ↓reduceIte, Nat.reduceAdd, Nat.reduceSub, Nat.reduceEqDiff, Nat.reduceLT, Nat.reduceLeDiff, Nat.reduceMul, Int.reduceNeg, Int.reduceToNat, Int.reduceEq, Int.reduceLT, Int.reduceLE, reduceCtorEq, Tryz.f98, h]
      simp [cmpS, h]
    · simp only [go_sem, ↓reduceIte, Nat.reduceAdd, Nat.reduceSub, Nat.reduceEqDiff, Nat.reduceLT, Nat.reduceLeDiff, Nat.reduceMul, Int.reduceNeg, Int.reduceToNat, Int.reduceEq, Int.reduceLT, Int.reduceLE, reduceCtorEq, Tryz.f98, h, he]
      simp [cmpS, h, he]
theorem or_C (l : List Int) (hl : l.length ≤ 1099511627776) : R SC 97 [.sl (l.map (.int .i64))] = some ⟨[none], .int .i64 ((l.find? fun x => !decide (x = 0)).getD 0)⟩ := by
  refine goC97 rfl ?_
  simp only [go_sem, ↓reduceIte, Nat.reduceAdd, Nat.reduceSub, Nat.reduceEqDiff, Nat.reduceLT, Nat.reduceLeDiff, Nat.reduceMul, Int.reduceNeg, Int.reduceToNat, Int.reduceEq, Int.reduceLT, Int.reduceLE, reduceCtorEq, Tryz.f97]
  refine ends_for l.length (by omega) (fun i _ => mkSt [(3, .int .i64 0), (6, .sl (l.map (.int .i64))), (7, .int .i64 l.length), (8, .int .i64 i)] []) (fun i _ => ∀ y ∈ l.take i, y = 0) 0 () (by omega) (by simp) ?_ ?_
  · rintro i _ hi hI hw ih
    obtain ⟨x, hx, hg, hd⟩ := drop_get hi default
    by_cases h : x = 0
    · simp only [go_sem, ↓reduceIte, Nat.reduceAdd, Nat.reduceSub, Nat.reduceEqDiff, Nat.reduceLT, Nat.reduceLeDiff, Nat.reduceMul, Int.reduceNeg, Int.reduceToNat, Int.reduceEq, Int.reduceLT, Int.reduceLE, reduceCtorEq, hi, hw, hg, hx, eq_true h]
      refine ih () fun y hy => ?_
      rw [List.take_add_one, hx] at hy
      rcases List.mem_append.1 hy with hy | hy
      · exact hI y hy
      · simp at hy; rw [hy, h]
    · have e : (l.find? fun x => !decide (x = 0)) = some x := by
        rw [← List.take_append_drop i l, hd, List.find?_append, List.find?_eq_none.2 fun y hy => by simp [hI y hy]]
        simp [h]
      simp only [go_sem, ↓reduceIte, Nat.reduceAdd, Nat.reduceSub, Nat.reduceEqDiff, Nat.reduceLT, Nat.reduceLeDiff, Nat.reduceMul, Int.reduceNeg, Int.reduceToNat, Int.reduceEq, Int.reduceLT, Int.reduceLE, reduceCtorEq, hi, hw, hg, hx, h]
      rw [e]; rfl
  · rintro _ hI
    rw [List.take_length] at hI
    have e : (l.find? fun x => !decide (x = 0)) = none := List.find?_eq_none.2 fun y hy => by simp [hI y hy]
    simp only [go_sem, ↓reduceIte, Nat.reduceAdd, Nat.reduceSub, Nat.reduceEqDiff, Nat.reduceLT, Nat.reduceLeDiff, Nat.reduceMul, Int.reduceNeg, Int.reduceToNat, Int.reduceEq, Int.reduceLT, Int.reduceLE, reduceCtorEq]
    rw [e]; rfl
@[go_sem] theorem or_C2 (x y : Int) : R SC 97 [.sl [.int .i64 x, .int .i64 y]] = some ⟨[none], .int .i64 (if x = 0 then y else x)⟩ := by
  have h := or_C [x, y] (by simp)
  by_cases hx : x = 0
  · by_cases hy : y = 0
    · simpa [hx, hy] using h
    · simpa [hx, hy] using h
  · simpa [hx] using h
@[go_sem] theorem cmp_C (a b c d : Str) (u v : Value) : R SC 96 [.agg [.str a, .str b, .lit u], .agg [.str c, .str d, .lit v]] = some ⟨[none, none], .int .i64 (cfE (a, b) (c, d))⟩ := by
  refine goC96 rfl ?_
  simp only [go_sem, ↓reduceIte, Nat.reduceAdd, Nat.reduceSub, Nat.reduceEqDiff, Nat.reduceLT, Nat.reduceLeDiff, Nat.reduceMul, Int.reduceNeg, Int.reduceToNat, Int.reduceEq, Int.reduceLT, Int.reduceLE, reduceCtorEq, Tryz.f96]
  exact ⟨by decide +kernel, rfl⟩
end Go.Proofs.YtjagjfjhinlgiaaGreatDoor.PVE
