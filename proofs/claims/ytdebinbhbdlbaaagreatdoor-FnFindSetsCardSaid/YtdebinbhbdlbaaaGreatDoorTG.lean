/- Comparisons of what is the same; drawn numbers and keys; the law of keys. -/
import Derived.Test.YtdebinbhbdlbaaaGreatDoorTF
set_option linter.unusedVariables false
set_option linter.unusedSimpArgs false
set_option maxRecDepth 100000
namespace Go.Proofs.YtdebinbhbdlbaaaGreatDoor.PVE
open PV Query
@[go_sem] theorem sdInts_R (a : List Int) (ha : a.length ≤ 1099511627776) : R S0 21 [.sl (a.map (PV.int .i64)), .sl (a.map (PV.int .i64))] = some ⟨[none, none], .bool true⟩ := by
  refine go21 rfl ?_; simp only [go_sem, ↓reduceIte, Nat.reduceAdd, Nat.reduceSub, Nat.reduceEqDiff, Nat.reduceLT, Nat.reduceLeDiff, Nat.reduceMul, Int.reduceNeg, Int.reduceToNat, Int.reduceEq, Int.reduceLT, Int.reduceLE, reduceCtorEq, Tryz.f21]
  refine ends_for a.length (by omega) (fun i _ => mkSt [(0, .sl (a.map (PV.int .i64))), (1, .sl (a.map (PV.int .i64))), (5, .int .i64 i)] []) (fun _ _ => True) 0 () (by omega) trivial ?_ ?_
  · rintro i _ hi - hw ih
    obtain ⟨x, hx, hg, hd⟩ := drop_get hi default
    have ih' := ih () trivial
    simp only [go_sem, ↓reduceIte, Nat.reduceAdd, Nat.reduceSub, Nat.reduceEqDiff, Nat.reduceLT, Nat.reduceLeDiff, Nat.reduceMul, Int.reduceNeg, Int.reduceToNat, Int.reduceEq, Int.reduceLT, Int.reduceLE, reduceCtorEq, hi, hw, hg, hx]
    exact ih'
  · rintro _ -
    simp only [go_sem, ↓reduceIte, Nat.reduceAdd, Nat.reduceSub, Nat.reduceEqDiff, Nat.reduceLT, Nat.reduceLeDiff, Nat.reduceMul, Int.reduceNeg, Int.reduceToNat, Int.reduceEq, Int.reduceLT, Int.reduceLE, reduceCtorEq]
end Go.Proofs.YtdebinbhbdlbaaaGreatDoor.PVE
namespace Go.Proofs.YtdebinbhbdlbaaaGreatDoor.PVE
open PV Query
end Go.Proofs.YtdebinbhbdlbaaaGreatDoor.PVE
