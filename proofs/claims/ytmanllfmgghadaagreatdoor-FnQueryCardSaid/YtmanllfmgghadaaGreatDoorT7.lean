/- Sizes, copies and comparisons of fields and questions. -/
import Derived.Test.YtmanllfmgghadaaGreatDoorT4
set_option linter.unusedVariables false
set_option linter.unusedSimpArgs false
set_option maxRecDepth 100000
namespace Go.Proofs.YtmanllfmgghadaaGreatDoor.PVE
open PV Query
mutual
def tot : Query → Nat | .mk _ f t _ _ p => f.length + t.length + totL p
def totL : List Query → Nat
  | [] => 0
  | q :: l => tot q + 1 + totL l
end
inductive Query.Lm : Query → Prop
  | mk (q : Query) (hf : q.field.length ≤ 9223372036854775807) (ht : q.text.length ≤ 9223372036854775807) (hp : q.parts.length ≤ 9223372036854775807) (h : ∀ p ∈ q.parts, p.Lm) : q.Lm
def zeroQ : Query := .mk 0 [] [] 0 0 []
theorem eqQueryS_R (l : List Query) (hl : l.length ≤ 1099511627776) (h : ∀ q ∈ l, R S0 29 [.agg [.int .i64 q.kind, .str q.field, .str q.text, .int .i64 q.low, .int .i64 q.high, .sl (q.parts.map pv)], .agg [.int .i64 q.kind, .str q.field, .str q.text, .int .i64 q.low, .int .i64 q.high, .sl (q.parts.map pv)]] = some ⟨[none, none], .bool true⟩) :
    R S0 80 [.sl (l.map pv), .sl (l.map pv)] = some ⟨[none, none], .bool true⟩ := by
  refine go80 rfl ?_; simp only [go_sem, ↓reduceIte, Nat.reduceAdd, Nat.reduceSub, Nat.reduceEqDiff, Nat.reduceLT, Nat.reduceLeDiff, Nat.reduceMul, Int.reduceNeg, Int.reduceToNat, Int.reduceEq, Int.reduceLT, Int.reduceLE, reduceCtorEq, Tryz.f80]
  refine ends_for l.length (by omega) (fun i _ => mkSt [(0, .sl (l.map pv)), (1, .sl (l.map pv)), (5, .int .i64 i)] []) (fun i _ => True) 0 () (by omega) trivial ?_ ?_
  · rintro i _ hi - hw ih
    obtain ⟨q, hq, hg, hd⟩ := drop_get hi default
    have hr := h q (List.mem_of_getElem? hq)
    simp only [go_sem, ↓reduceIte, Nat.reduceAdd, Nat.reduceSub, Nat.reduceEqDiff, Nat.reduceLT, Nat.reduceLeDiff, Nat.reduceMul, Int.reduceNeg, Int.reduceToNat, Int.reduceEq, Int.reduceLT, Int.reduceLE, reduceCtorEq, hi, hw, hg, hr]
    exact ih () trivial
  · rintro _ -
    simp only [go_sem, ↓reduceIte, Nat.reduceAdd, Nat.reduceSub, Nat.reduceEqDiff, Nat.reduceLT, Nat.reduceLeDiff, Nat.reduceMul, Int.reduceNeg, Int.reduceToNat, Int.reduceEq, Int.reduceLT, Int.reduceLE, reduceCtorEq]
theorem eqQuery_R (q : Query) : q.Sm → R S0 29 [.agg [.int .i64 q.kind, .str q.field, .str q.text, .int .i64 q.low, .int .i64 q.high, .sl (q.parts.map pv)], .agg [.int .i64 q.kind, .str q.field, .str q.text, .int .i64 q.low, .int .i64 q.high, .sl (q.parts.map pv)]] = some ⟨[none, none], .bool true⟩ := by
  refine Query.ind (P := fun q => q.Sm → R S0 29 [.agg [.int .i64 q.kind, .str q.field, .str q.text, .int .i64 q.low, .int .i64 q.high, .sl (q.parts.map pv)], .agg [.int .i64 q.kind, .str q.field, .str q.text, .int .i64 q.low, .int .i64 q.high, .sl (q.parts.map pv)]] = some ⟨[none, none], .bool true⟩) (fun q ih hq => ?_) q
  obtain ⟨_, hf, ht, hp, hs⟩ := hq
  have hS := eqQueryS_R q.parts hp (fun p hp => ih p hp (hs p hp))
  refine go29 rfl ?_; simp only [go_sem, ↓reduceIte, Nat.reduceAdd, Nat.reduceSub, Nat.reduceEqDiff, Nat.reduceLT, Nat.reduceLeDiff, Nat.reduceMul, Int.reduceNeg, Int.reduceToNat, Int.reduceEq, Int.reduceLT, Int.reduceLE, reduceCtorEq, Tryz.f29, hS]
end Go.Proofs.YtmanllfmgghadaaGreatDoor.PVE
