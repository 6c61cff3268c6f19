/- QueryPut, QueryGet: the reference's side; the laws. -/
import Derived.Test.YtmanllfmgghadaaDoorT88
set_option linter.unusedVariables false
set_option linter.unusedSimpArgs false
set_option maxRecDepth 100000
namespace Go.Proofs.YtmanllfmgghadaaDoor.PVE
open PV Query
@[go_sem] theorem specQueryPut_R (q : Query) (hq : q.Sm) : R S0 5 [.agg [.int .i64 q.kind, .str q.field, .str q.text, .int .i64 q.low, .int .i64 q.high, .sl (q.parts.map pv)]] = some ⟨[none], .str (putA q)⟩ := by
  cases h : okQ 4 q with
  | true =>
    have hP := specPut_R 4 (Nat.le_refl _) q hq h
    rw [putA, h, if_pos rfl]
    refine go5 rfl ?_; simp only [go_sem, ↓reduceIte, Nat.reduceAdd, Nat.reduceSub, Nat.reduceEqDiff, Nat.reduceLT, Nat.reduceLeDiff, Nat.reduceMul, Int.reduceNeg, Int.reduceToNat, Int.reduceEq, Int.reduceLT, Int.reduceLE, reduceCtorEq, Tryd.f5, hq, h, hP]
  | false =>
    rw [putA, h, if_neg (by simp)]
    refine go5 rfl ?_; simp only [go_sem, ↓reduceIte, Nat.reduceAdd, Nat.reduceSub, Nat.reduceEqDiff, Nat.reduceLT, Nat.reduceLeDiff, Nat.reduceMul, Int.reduceNeg, Int.reduceToNat, Int.reduceEq, Int.reduceLT, Int.reduceLE, reduceCtorEq, Tryd.f5, hq, h]
theorem FnExactQueryPut_R (q : Query) (hq : q.Lm) : R S0 3 [.agg [.int .i64 q.kind, .str q.field, .str q.text, .int .i64 q.low, .int .i64 q.high, .sl (q.parts.map pv)]] = some ⟨[none], .bool true⟩ := by
  have s2 := szQuery_R q hq 1048576 (by omega) (by omega)
  by_cases c2 : szQ q 1048576 < 0
  · refine go3 rfl ?_; simp only [go_sem, ↓reduceIte, Nat.reduceAdd, Nat.reduceSub, Nat.reduceEqDiff, Nat.reduceLT, Nat.reduceLeDiff, Nat.reduceMul, Int.reduceNeg, Int.reduceToNat, Int.reduceEq, Int.reduceLT, Int.reduceLE, reduceCtorEq, Tryd.f3, s2, c2]
  have t2 : tot q ≤ 1048576 := by unfold szQ at c2; split at c2 <;> rename_i h <;> omega
  have hs := sm_of_tot q (by omega)
  have k1 := toQuery_R q hs
  have k2 := eqQuery_R q hs
  refine go3 rfl ?_; simp only [go_sem, ↓reduceIte, Nat.reduceAdd, Nat.reduceSub, Nat.reduceEqDiff, Nat.reduceLT, Nat.reduceLeDiff, Nat.reduceMul, Int.reduceNeg, Int.reduceToNat, Int.reduceEq, Int.reduceLT, Int.reduceLE, reduceCtorEq, Tryd.f3, s2, c2, hs, k1, k2]
  decide +kernel
end Go.Proofs.YtmanllfmgghadaaDoor.PVE
