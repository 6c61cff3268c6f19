/- What a question asks of a document: laws. -/
import Derived.Test.YtanbccpabgcmaaaGreatDoorT19
import Derived.Test.YtanbccpabgcmaaaGreatDoorT18
import Derived.Test.YtanbccpabgcmaaaGreatDoorT16
set_option linter.unusedVariables false
set_option linter.unusedSimpArgs false
set_option maxRecDepth 100000
namespace Go.Proofs.YtanbccpabgcmaaaGreatDoor.PVE
open PV Query
def DMPost (r : Ans) : Prop := ∃ l : List Field, ∃ d : Doc, ∃ q : Query, r = ⟨[none], .tup [.sl (l.map Field.pv), .agg [.str d.key, .slo 2 (d.cells.map Cell.pv)], .agg [.int .i64 q.kind, .str q.field, .str q.text, .int .i64 q.low, .int .i64 q.high, .slo 6 (q.parts.map pvo)]]⟩ ∧ FSm l ∧ DSt 5 d ∧ q.Sm
def DKPost (r : Ans) : Prop := ∃ l : List Field, ∃ d : Doc, r = ⟨[none], .tup [.sl (l.map Field.pv), .agg [.str d.key, .sl (d.cells.map Cell.pv)]]⟩ ∧ FSm l ∧ DSt 5 d
theorem drawDocOk_ex (b : Str) : ∃ r, R S0 24 [.sl (b.map bytePV)] = some r ∧ DKPost r := by
  have hb : (b.take 2000).length ≤ 2000 := by simp; omega
  obtain ⟨r1, hr1, l, p1, rfl, h1, h2, hl⟩ := anyFields_ex (b.take 2000) 0 (by omega) hb
  obtain ⟨r2, hr2, d, p2, rfl, h3, h4, hd⟩ := anyDoc_ex l hl (b.take 2000) p1 (by omega) hb
  rw [show ((0 : Nat) : Int) = 0 from rfl] at hr1
  refine (fun ⟨r, h, hp⟩ => ⟨r, go24 rfl h, hp⟩ : (∃ r, Ends S0 _ _ r ∧ _) → _) ?_
  simp only [go_sem, ↓reduceIte, Nat.reduceAdd, Nat.reduceSub, Nat.reduceEqDiff, Nat.reduceLT, Nat.reduceLeDiff, Nat.reduceMul, Int.reduceNeg, Int.reduceToNat, Int.reduceEq, Int.reduceLT, Int.reduceLE, reduceCtorEq, Tryz.f24, hr1, hr2, hb, ex_if, ex_bool, ex_and, ex_eq]
  exact ⟨l, d, rfl, hl, hd⟩
theorem okQ_mono {e : Nat} : ∀ {q : Query}, okQ e q = true → okQ (e + 1) q = true := by
  induction e with
  | zero => intro q h; cases h
  | succ e ih =>
    intro q h
    simp only [okQ, Bool.and_eq_true, List.all_eq_true] at h
    rw [okQ, h.1, Bool.true_and, List.all_eq_true]
    exact fun x hx => ih (h.2 x hx)
theorem fits_part {l : List Field} {q x : Query} (hok : okQ 4 q = true) (hf : fitsI l q = true) (hx : x ∈ q.parts) : okQ 4 x = true ∧ fitsI l x = true := by
  obtain ⟨e, he, hn, hp⟩ := okQ_node hok
  obtain rfl : e = 3 := by omega
  refine ⟨okQ_mono (hp x hx), ?_⟩
  rw [fitsI_eq] at hf
  rw [if_neg] at hf
  · exact List.all_eq_true.1 hf x hx
  · intro hk
    rw [nodeOk_leaf hn hk] at hx
    simp at hx
end Go.Proofs.YtanbccpabgcmaaaGreatDoor.PVE
