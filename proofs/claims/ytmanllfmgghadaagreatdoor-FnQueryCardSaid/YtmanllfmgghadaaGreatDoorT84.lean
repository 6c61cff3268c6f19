/- A question is put and got: the program's side. -/
import Derived.Test.YtmanllfmgghadaaGreatDoorT83
import Derived.Test.YtmanllfmgghadaaGreatDoorT8
set_option linter.unusedVariables false
set_option linter.unusedSimpArgs false
set_option maxRecDepth 100000
namespace Go.Proofs.YtmanllfmgghadaaGreatDoor.PVE
open PV Query
open Classical in
noncomputable def getQ (t : Str) : Query × Bool := if h : t.length ≤ 200 ∧ ∃ q, okQ 4 q = true ∧ putQ q = t then (h.2.choose, true) else (zeroQ, false)
theorem getQ_yes {t : Str} {q : Query} (hl : t.length ≤ 200) (h1 : okQ 4 q = true) (h2 : putQ q = t) (hu : ∀ q0, okQ 4 q0 = true → putQ q0 = t → q = q0) : getQ t = (q, true) := by
  have h : t.length ≤ 200 ∧ ∃ q, okQ 4 q = true ∧ putQ q = t := ⟨hl, q, h1, h2⟩
  rw [getQ, dif_pos h, ← hu _ h.2.choose_spec.1 h.2.choose_spec.2]
theorem getQ_no {t : Str} (h : ¬ (t.length ≤ 200 ∧ ∃ q, okQ 4 q = true ∧ putQ q = t)) : getQ t = (zeroQ, false) := by
  rw [getQ, dif_neg h]
theorem put_ne {d : Nat} {q : Query} (h : okQ d q = true) : putQ q ≠ [] := by
  obtain ⟨b, l, h, _⟩ := put_head h
  rw [h]; simp
def putA (q : Query) : Str := if okQ 4 q = true then putQ q else []
@[go_sem] theorem implQueryPut_R (q : Query) (hq : q.Sm) : R S0 44 [.agg [.int .i64 q.kind, .str q.field, .str q.text, .int .i64 q.low, .int .i64 q.high, .sl (q.parts.map pv)]] = some ⟨[none], .str (putA q)⟩ := by
  cases h : okQ 4 q with
  | true =>
    have hP := implPut_R 4 (Nat.le_refl _) q hq h
    rw [putA, h, if_pos rfl]
    refine go44 rfl ?_; simp only [go_sem, ↓reduceIte, Nat.reduceAdd, Nat.reduceSub, Nat.reduceEqDiff, Nat.reduceLT, Nat.reduceLeDiff, Nat.reduceMul, Int.reduceNeg, Int.reduceToNat, Int.reduceEq, Int.reduceLT, Int.reduceLE, reduceCtorEq, Tryz.f44, hq, h, hP]
  | false =>
    rw [putA, h, if_neg (by simp)]
    refine go44 rfl ?_; simp only [go_sem, ↓reduceIte, Nat.reduceAdd, Nat.reduceSub, Nat.reduceEqDiff, Nat.reduceLT, Nat.reduceLeDiff, Nat.reduceMul, Int.reduceNeg, Int.reduceToNat, Int.reduceEq, Int.reduceLT, Int.reduceLE, reduceCtorEq, Tryz.f44, hq, h]
theorem implQueryGet_R (t : Str) (ht : t.length ≤ 1099511627776) : R S0 41 [.str t] = some ⟨[none], .tup [.agg [.int .i64 (getQ t).1.kind, .str (getQ t).1.field, .str (getQ t).1.text, .int .i64 (getQ t).1.low, .int .i64 (getQ t).1.high, .slo 6 ((getQ t).1.parts.map pvo)], .bool (getQ t).2]⟩ := by
  by_cases h0 : t = []
  · subst h0
    rw [getQ_no (by rintro ⟨_, q, h1, h2⟩; exact put_ne h1 h2)]
    refine go41 rfl ?_; simp only [go_sem, ↓reduceIte, Nat.reduceAdd, Nat.reduceSub, Nat.reduceEqDiff, Nat.reduceLT, Nat.reduceLeDiff, Nat.reduceMul, Int.reduceNeg, Int.reduceToNat, Int.reduceEq, Int.reduceLT, Int.reduceLE, reduceCtorEq, Tryz.f41]
    exact ⟨rfl, rfl, rfl, rfl, rfl, rfl⟩
  by_cases hl : 200 < (t.length : Int)
  · rw [getQ_no (by rintro ⟨h, _⟩; omega)]
    refine go41 rfl ?_; simp only [go_sem, ↓reduceIte, Nat.reduceAdd, Nat.reduceSub, Nat.reduceEqDiff, Nat.reduceLT, Nat.reduceLeDiff, Nat.reduceMul, Int.reduceNeg, Int.reduceToNat, Int.reduceEq, Int.reduceLT, Int.reduceLE, reduceCtorEq, Tryz.f41, h0, hl]
    exact ⟨rfl, rfl, rfl, rfl, rfl, rfl⟩
  obtain ⟨r, hr, q, b, rfl, k1, k2, k3, k4⟩ := pquery_ex t (by omega) 4 1 0 (by omega) (by omega)
  rw [show ((0 : Nat) : Int) = 0 from rfl, show ((1 : Nat) : Int) = 1 from rfl] at hr
  have hu : ∀ q0, okQ 4 q0 = true → putQ q0 = t → q = q0 := fun q0 h1 h2 => (k4 q0 [] h1 (by rw [h2]; simp) dl_nil).1
  have hc := clone_R q k3
  by_cases hok : okQ 4 q = true ∧ putQ q = t
  · rw [getQ_yes (by omega) hok.1 hok.2 hu]
    have hP : putA q = t := by rw [putA, if_pos hok.1, hok.2]
    refine go41 rfl ?_; simp only [go_sem, ↓reduceIte, Nat.reduceAdd, Nat.reduceSub, Nat.reduceEqDiff, Nat.reduceLT, Nat.reduceLeDiff, Nat.reduceMul, Int.reduceNeg, Int.reduceToNat, Int.reduceEq, Int.reduceLT, Int.reduceLE, reduceCtorEq, Tryz.f41, h0, hl, hr, k3, hP, hc]
  · have hP : ¬ putA q = t := by
      rw [putA]
      split
      · rename_i h; exact fun e => hok ⟨h, e⟩
      · exact fun e => h0 e.symm
    rw [getQ_no (by
      rintro ⟨_, q0, h1, h2⟩
      have := hu q0 h1 h2
      subst this
      exact hok ⟨h1, h2⟩)]
    refine go41 rfl ?_; simp only [go_sem, ↓reduceIte, Nat.reduceAdd, Nat.reduceSub, Nat.reduceEqDiff, Nat.reduceLT, Nat.reduceLeDiff, Nat.reduceMul, Int.reduceNeg, Int.reduceToNat, Int.reduceEq, Int.reduceLT, Int.reduceLE, reduceCtorEq, Tryz.f41, h0, hl, hr, k3, hP]
    exact ⟨rfl, rfl, rfl, rfl, rfl, rfl⟩
end Go.Proofs.YtmanllfmgghadaaGreatDoor.PVE
