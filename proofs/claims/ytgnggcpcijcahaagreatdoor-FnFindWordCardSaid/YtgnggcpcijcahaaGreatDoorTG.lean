/- Comparisons of what is the same; drawn numbers and keys; the law of keys. -/
import Derived.Test.YtgnggcpcijcahaaGreatDoorTF
set_option linter.unusedVariables false
set_option linter.unusedSimpArgs false
set_option maxRecDepth 100000
namespace Go.Proofs.YtgnggcpcijcahaaGreatDoor.PVE
open PV Query
@[go_sem] theorem sdInts_R (a : List Int) (ha : a.length ≤ 1099511627776) : R S0 18 [.sl (a.map (PV.int .i64)), .sl (a.map (PV.int .i64))] = some ⟨[none, none], .bool true⟩ := by
  refine go18 rfl ?_; simp only [go_sem, ↓reduceIte, Nat.reduceAdd, Nat.reduceSub, Nat.reduceEqDiff, Nat.reduceLT, Nat.reduceLeDiff, Nat.reduceMul, Int.reduceNeg, Int.reduceToNat, Int.reduceEq, Int.reduceLT, Int.reduceLE, reduceCtorEq, Tryz.f18]
  refine ends_for a.length (by omega) (fun i _ => mkSt [(0, .sl (a.map (PV.int .i64))), (1, .sl (a.map (PV.int .i64))), (5, .int .i64 i)] []) (fun _ _ => True) 0 () (by omega) trivial ?_ ?_
  · rintro i _ hi - hw ih
    obtain ⟨x, hx, hg, hd⟩ := drop_get hi default
    have ih' := ih () trivial
    simp only [go_sem, ↓reduceIte, Nat.reduceAdd, Nat.reduceSub, Nat.reduceEqDiff, Nat.reduceLT, Nat.reduceLeDiff, Nat.reduceMul, Int.reduceNeg, Int.reduceToNat, Int.reduceEq, Int.reduceLT, Int.reduceLE, reduceCtorEq, hi, hw, hg, hx]
    exact ih'
  · rintro _ -
    simp only [go_sem, ↓reduceIte, Nat.reduceAdd, Nat.reduceSub, Nat.reduceEqDiff, Nat.reduceLT, Nat.reduceLeDiff, Nat.reduceMul, Int.reduceNeg, Int.reduceToNat, Int.reduceEq, Int.reduceLT, Int.reduceLE, reduceCtorEq]
@[go_sem] theorem sdPostsI_R (a : List Post) (ha : a.length ≤ 1099511627776) (hp : ∀ p ∈ a, p.ats.length ≤ 1099511627776) : R S0 37 [.sl (a.map Post.pvF), .sl (a.map Post.pvF)] = some ⟨[none, none], .bool true⟩ := by
  refine go37 rfl ?_; simp only [go_sem, ↓reduceIte, Nat.reduceAdd, Nat.reduceSub, Nat.reduceEqDiff, Nat.reduceLT, Nat.reduceLeDiff, Nat.reduceMul, Int.reduceNeg, Int.reduceToNat, Int.reduceEq, Int.reduceLT, Int.reduceLE, reduceCtorEq, Tryz.f37]
  refine ends_for a.length (by omega) (fun i _ => mkSt [(0, .sl (a.map Post.pvF)), (1, .sl (a.map Post.pvF)), (5, .int .i64 i)] []) (fun _ _ => True) 0 () (by omega) trivial ?_ ?_
  · rintro i _ hi - hw ih
    obtain ⟨x, hx, hg, hd⟩ := drop_get hi default
    have hxp := hp x (List.mem_of_getElem? hx)
    have ih' := ih () trivial
    simp only [go_sem, ↓reduceIte, Nat.reduceAdd, Nat.reduceSub, Nat.reduceEqDiff, Nat.reduceLT, Nat.reduceLeDiff, Nat.reduceMul, Int.reduceNeg, Int.reduceToNat, Int.reduceEq, Int.reduceLT, Int.reduceLE, reduceCtorEq, hi, hw, hg, hx, hxp]
    exact ih'
  · rintro _ -
    simp only [go_sem, ↓reduceIte, Nat.reduceAdd, Nat.reduceSub, Nat.reduceEqDiff, Nat.reduceLT, Nat.reduceLeDiff, Nat.reduceMul, Int.reduceNeg, Int.reduceToNat, Int.reduceEq, Int.reduceLT, Int.reduceLE, reduceCtorEq]
end Go.Proofs.YtgnggcpcijcahaaGreatDoor.PVE
namespace Go.Proofs.YtgnggcpcijcahaaGreatDoor.PVE
open PV Query
end Go.Proofs.YtgnggcpcijcahaaGreatDoor.PVE
