/- The index: the program's rebuilding. -/
import Derived.Test.YtjagjfjhinlgiaaGreatDoorT37
set_option linter.unusedVariables false
set_option linter.unusedSimpArgs false
set_option maxRecDepth 100000
namespace Go.Proofs.YtjagjfjhinlgiaaGreatDoor.PVE
open PV
@[go_sem] theorem cloneDoc_R (d : Doc) (hd : d.cells.length ≤ 1099511627776) : R S0 73 [.agg [.str d.key, .sl (d.cells.map Cell.pv)]] = some ⟨[none], .agg [.str d.key, .slo 2 (d.cells.map Cell.pv)]⟩ := by
  refine go73 rfl ?_; simp only [go_sem, ↓reduceIte, Nat.reduceAdd, Nat.reduceSub, Nat.reduceEqDiff, Nat.reduceLT, Nat.reduceLeDiff, Nat.reduceMul, Int.reduceNeg, Int.reduceToNat, Int.reduceEq, Int.reduceLT, Int.reduceLE, reduceCtorEq, Tryz.f73]
  exact ⟨by omega, by decide +kernel⟩
end Go.Proofs.YtjagjfjhinlgiaaGreatDoor.PVE
