/- A question is put and got: the program's side. -/
import Derived.Test.YtmanllfmgghadaaDoorT83
import Derived.Test.YtmanllfmgghadaaDoorT8
set_option linter.unusedVariables false
set_option linter.unusedSimpArgs false
set_option maxRecDepth 100000
namespace Go.Proofs.YtmanllfmgghadaaDoor.PVE
open PV Query
def putA (q : Query) : Str := if okQ 4 q = true then putQ q else []
@[go_sem] theorem implQueryPut_R (q : Query) (hq : q.Sm) : R S0 7 [.agg [.int .i64 q.kind, .str q.field, .str q.text, .int .i64 q.low, .int .i64 q.high, .sl (q.parts.map pv)]] = some ⟨[none], .str (putA q)⟩ := by
  cases h : okQ 4 q with
  | true =>
    have hP := implPut_R 4 (Nat.le_refl _) q hq h
    rw [putA, h, if_pos rfl]
    refine go7 rfl ?_; simp only [go_sem, ↓reduceIte, Nat.reduceAdd, Nat.reduceSub, Nat.reduceEqDiff, Nat.reduceLT, Nat.reduceLeDiff, Nat.reduceMul, Int.reduceNeg, Int.reduceToNat, Int.reduceEq, Int.reduceLT, Int.reduceLE, reduceCtorEq, Tryd.f7, hq, h, hP]
  | false =>
    rw [putA, h, if_neg (by simp)]
    refine go7 rfl ?_; simp only [go_sem, ↓reduceIte, Nat.reduceAdd, Nat.reduceSub, Nat.reduceEqDiff, Nat.reduceLT, Nat.reduceLeDiff, Nat.reduceMul, Int.reduceNeg, Int.reduceToNat, Int.reduceEq, Int.reduceLT, Int.reduceLE, reduceCtorEq, Tryd.f7, hq, h]
end Go.Proofs.YtmanllfmgghadaaDoor.PVE
