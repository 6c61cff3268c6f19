/- The index: the program's IndexDrop; the law of an index without documents. -/
import Derived.Test.YtmanllfmgghadaaGreatDoorTE
set_option linter.unusedVariables false
set_option linter.unusedSimpArgs false
set_option maxRecDepth 100000
namespace Go.Proofs.YtmanllfmgghadaaGreatDoor.PVE
open PV Query
theorem keyIx_at {rows : List DRow} {i : Nat} (hi : i < rows.length) : keyIx rows rows[i].doc.key = i ↔ ∀ j (h : j < i), rows[j].doc.key ≠ rows[i].doc.key := by
  have ha : (rows.any fun r => decide (r.doc.key = rows[i].doc.key)) = true := by
    rw [List.any_eq_true]; exact ⟨rows[i], List.getElem_mem hi, by simp⟩
  rw [keyIx, if_pos ha, Int.ofNat_inj, List.findIdx_eq hi]
  constructor
  · rintro ⟨_, h⟩ j hj e
    have := h j hj
    simp [e] at this
  · intro h
    exact ⟨by simp, fun j hj => by simp [h j hj]⟩
theorem rowsOk_iff {fl : List Field} {rows : List DRow} {nx : Int} : rowsOkTo fl rows nx rows.length = true ↔ (∀ r ∈ rows, docOk fl r.doc = true ∧ inB r.id 0 (nx - 1) = true) ∧ rows.Pairwise (fun a b => a.doc.key ≠ b.doc.key) ∧ rows.Pairwise (fun a b => a.id < b.id) := by
  rw [rowsOkTo_all]
  have hg : ∀ i (h : i < rows.length), rows.getD i default = rows[i] := fun i h => by simp [List.getD_eq_getElem?_getD, List.getElem?_eq_getElem h]
  constructor
  · intro h
    have h' : ∀ i (hi : i < rows.length), docOk fl rows[i].doc = true ∧ inB rows[i].id 0 (nx - 1) = true ∧ keyIx rows rows[i].doc.key = i ∧ (i = 0 ∨ rows[i - 1].id < rows[i].id) := by
      intro i hi
      have := h i hi
      rw [rowOkS, hg i hi, hg (i - 1) (by omega)] at this
      simp only [Bool.and_eq_true, Bool.or_eq_true, decide_eq_true_eq] at this
      exact ⟨this.1.1.1, this.1.2, this.1.1.2, this.2⟩
    refine ⟨fun r hr => ?_, ?_, ?_⟩
    · obtain ⟨i, hi, rfl⟩ := List.getElem_of_mem hr
      exact ⟨(h' i hi).1, (h' i hi).2.1⟩
    · rw [List.pairwise_iff_getElem]
      intro i j hi hj hij
      exact (keyIx_at hj).1 (h' j hj).2.2.1 i hij
    · rw [List.pairwise_iff_getElem]
      intro i j hi hj hij
      induction j with
      | zero => omega
      | succ j ih =>
        have h1 := (h' (j + 1) hj).2.2.2
        have h2 : rows[j].id < rows[j + 1].id := by
          rcases h1 with h1 | h1
          · omega
          · exact h1
        by_cases e : i = j
        · subst e; exact h2
        · exact Int.lt_trans (ih (by omega) (by omega)) h2
  · rintro ⟨h1, h2, h3⟩ i hi
    rw [List.pairwise_iff_getElem] at h2 h3
    rw [rowOkS, hg i hi, hg (i - 1) (by omega)]
    simp only [Bool.and_eq_true, Bool.or_eq_true, decide_eq_true_eq]
    obtain ⟨d1, d2⟩ := h1 rows[i] (List.getElem_mem hi)
    refine ⟨⟨⟨d1, (keyIx_at hi).2 fun j hj => h2 j i (by omega) hi hj⟩, d2⟩, ?_⟩
    by_cases e : i = 0
    · exact .inl e
    · exact .inr (h3 (i - 1) i (by omega) hi (by omega))
theorem indexOk_parts {fl : List Field} {rows : List DRow} {ents : List Entry} {nx : Int} (h : indexOkS fl rows ents nx = true) : rowsOkTo fl rows nx rows.length = true ∧ fieldsOk fl = true ∧ rows.length ≤ 8 ∧ inB nx 0 999999999 = true ∧ madeE fl rows = ents := by
  simp only [indexOkS, Bool.and_eq_true, decide_eq_true_eq] at h
  exact ⟨h.1, h.2.1.1.1, h.2.1.1.2, h.2.1.2, h.2.2⟩
theorem keyIx_neg {rows : List DRow} {k : Str} : keyIx rows k < 0 ↔ (rows.any fun r => decide (r.doc.key = k)) = false := by
  rw [keyIx]
  split <;> rename_i h
  · simp only [h, reduceCtorEq, iff_false]; omega
  · simp only [Bool.not_eq_true] at h; simp [h]
theorem indexOk_st {fl : List Field} {rows : List DRow} {ents : List Entry} {nx : Int} (h : indexOkS fl rows ents nx = true) : RowsS 8 4 rows := by
  obtain ⟨h1, _, h3, _, _⟩ := indexOk_parts h
  exact rowsOk_st h1 h3
theorem RowsS.less {n m : Nat} {rows : List DRow} (h : RowsS n m rows) (k : Str) : RowsS n m (lessKey rows k) := ⟨Nat.le_trans (List.length_filter_le _ _) h.1, fun r hr => h.2 r (List.mem_filter.1 hr).1⟩
theorem implDrop_bad (fl : List Field) (rows : List DRow) (ents : List Entry) (nx : Int) (k : Str) (hfl : FSm fl) (hr : RowsM rows) (he : EntSm ents) (hn : -9223372036854775808 ≤ nx ∧ nx ≤ 9223372036854775807) (h : indexOkS fl rows ents nx = false) : R S0 32 [.agg [.sl (fl.map Field.pv), .sl (rows.map DRow.pvF), .sl (ents.map Entry.pvF), .int .i64 nx], .str k] = some ⟨[none, none], .tup [.agg [.slo 3 [], .slo 3 [], .slo 3 [], .int .i64 0], .bool false]⟩ := by
  refine go32 rfl ?_; simp only [go_sem, ↓reduceIte, Nat.reduceAdd, Nat.reduceSub, Nat.reduceEqDiff, Nat.reduceLT, Nat.reduceLeDiff, Nat.reduceMul, Int.reduceNeg, Int.reduceToNat, Int.reduceEq, Int.reduceLT, Int.reduceLE, reduceCtorEq, Tryz.f32, hfl, hr, he, hn, h]
theorem implDrop_none (fl : List Field) (rows : List DRow) (ents : List Entry) (nx : Int) (k : Str) (hfl : FSm fl) (hr : RowsM rows) (he : EntSm ents) (hn : -9223372036854775808 ≤ nx ∧ nx ≤ 9223372036854775807) (h : indexOkS fl rows ents nx = true) (hk : keyIx rows k < 0) : R S0 32 [.agg [.sl (fl.map Field.pv), .sl (rows.map DRow.pvF), .sl (ents.map Entry.pvF), .int .i64 nx], .str k] = some ⟨[none, none], .tup [.agg [.slo 3 (fl.map Field.pv), .slo 3 (rows.map DRow.pv), .slo 3 ((madeE fl rows).map Entry.pv), .int .i64 nx], .bool false]⟩ := by
  have hs := (indexOk_st h).st (by omega) (by omega)
  have hl : rows.length ≤ 1099511627776 := hr.1
  have hf1 : fl.length ≤ 1099511627776 := hfl.1
  refine go32 rfl ?_; simp only [go_sem, ↓reduceIte, Nat.reduceAdd, Nat.reduceSub, Nat.reduceEqDiff, Nat.reduceLT, Nat.reduceLeDiff, Nat.reduceMul, Int.reduceNeg, Int.reduceToNat, Int.reduceEq, Int.reduceLT, Int.reduceLE, reduceCtorEq, Tryz.f32, hfl, hr, he, hn, h, hk, hs, hl, hf1]
theorem implDrop_ok (fl : List Field) (rows : List DRow) (ents : List Entry) (nx : Int) (k : Str) (hfl : FSm fl) (hr : RowsM rows) (he : EntSm ents) (hn : -9223372036854775808 ≤ nx ∧ nx ≤ 9223372036854775807) (h : indexOkS fl rows ents nx = true) (hk : ¬ keyIx rows k < 0) : R S0 32 [.agg [.sl (fl.map Field.pv), .sl (rows.map DRow.pvF), .sl (ents.map Entry.pvF), .int .i64 nx], .str k] = some ⟨[none, none], .tup [.agg [.slo 3 (fl.map Field.pv), .slo 3 ((lessKey rows k).map DRow.pv), .slo 3 ((madeE fl (lessKey rows k)).map Entry.pv), .int .i64 nx], .bool true]⟩ := by
  have hs := ((indexOk_st h).less k).st (by omega) (by omega)
  have hl : rows.length ≤ 1099511627776 := hr.1
  have hf1 : fl.length ≤ 1099511627776 := hfl.1
  refine go32 rfl ?_; simp only [go_sem, ↓reduceIte, Nat.reduceAdd, Nat.reduceSub, Nat.reduceEqDiff, Nat.reduceLT, Nat.reduceLeDiff, Nat.reduceMul, Int.reduceNeg, Int.reduceToNat, Int.reduceEq, Int.reduceLT, Int.reduceLE, reduceCtorEq, Tryz.f32, hfl, hr, he, hn, h, hk, hs, hl, hf1]
  decide +kernel
end Go.Proofs.YtmanllfmgghadaaGreatDoor.PVE
namespace Go.Proofs.YtmanllfmgghadaaGreatDoor.PVE
open PV Query
end Go.Proofs.YtmanllfmgghadaaGreatDoor.PVE
