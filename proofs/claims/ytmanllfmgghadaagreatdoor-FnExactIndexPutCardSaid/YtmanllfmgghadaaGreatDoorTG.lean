/- Comparisons of what is the same; drawn numbers and keys; the law of keys. -/
import Derived.Test.YtmanllfmgghadaaGreatDoorTF
set_option linter.unusedVariables false
set_option linter.unusedSimpArgs false
set_option maxRecDepth 100000
namespace Go.Proofs.YtmanllfmgghadaaGreatDoor.PVE
open PV Query
end Go.Proofs.YtmanllfmgghadaaGreatDoor.PVE
namespace Go.Proofs.YtmanllfmgghadaaGreatDoor.PVE
open PV Query
theorem less_none {rows : List DRow} {k : Str} (h : keyIx rows k < 0) : lessKey rows k = rows := by
  rw [keyIx_neg] at h
  rw [lessKey, List.filter_eq_self]
  intro a ha
  rw [List.any_eq_false] at h
  have := h a ha
  simpa using this
theorem less_lt {rows : List DRow} {k : Str} (h : ¬ keyIx rows k < 0) : (lessKey rows k).length < rows.length := by
  rw [keyIx_neg] at h
  simp only [Bool.not_eq_false, List.any_eq_true, decide_eq_true_eq] at h
  obtain ⟨r, hr, he⟩ := h
  rw [lessKey]
  refine List.length_filter_lt_length_iff_exists.2 ⟨r, hr, by simp [he]⟩
def putRows (rows : List DRow) (nx : Int) (d : Doc) : List DRow := lessKey rows d.key ++ [DRow.mk nx (Doc.mk d.key d.cells)]
def canPut (fl : List Field) (rows : List DRow) (nx : Int) (d : Doc) : Bool := docOk fl d && (decide (nx ≠ 999999999) && decide ((lessKey rows d.key).length ≠ 8))
theorem doc_eta (d : Doc) : Doc.mk d.key d.cells = d := by cases d; rfl
theorem putOk {fl : List Field} {rows : List DRow} {ents : List Entry} {nx : Int} (h : indexOkS fl rows ents nx = true) {d : Doc} (hd : canPut fl rows nx d = true) : indexOkS fl (putRows rows nx d) (madeE fl (putRows rows nx d)) (nx + 1) = true := by
  obtain ⟨h1, h2, h3, h4, _⟩ := indexOk_parts h
  obtain ⟨a1, a2, a3⟩ := rowsOk_iff.1 h1
  simp only [canPut, Bool.and_eq_true, decide_eq_true_eq] at hd
  obtain ⟨d1, d2, d3⟩ := hd
  have hl : (lessKey rows d.key).length ≤ rows.length := List.length_filter_le _ _
  have h4' : 0 ≤ nx ∧ nx ≤ 999999999 := by simpa [inB] using h4
  have h5 : rowsOkTo fl (putRows rows nx d) (nx + 1) (putRows rows nx d).length = true := by
    refine rowsOk_iff.2 ⟨fun r hr => ?_, ?_, ?_⟩
    · rcases List.mem_append.1 hr with hr | hr
      · obtain ⟨b1, b2⟩ := a1 r (List.mem_filter.1 hr).1
        refine ⟨b1, ?_⟩
        simp only [inB, Bool.and_eq_true, decide_eq_true_eq] at b2 ⊢
        omega
      · simp only [List.mem_singleton] at hr
        subst hr
        refine ⟨by rw [doc_eta]; exact d1, ?_⟩
        simp only [inB, Bool.and_eq_true, decide_eq_true_eq]
        omega
    · refine List.pairwise_append.2 ⟨a2.sublist List.filter_sublist, List.pairwise_singleton _ _, fun a ha b hb => ?_⟩
      simp only [List.mem_singleton] at hb
      subst hb
      have := (List.mem_filter.1 ha).2
      simpa using this
    · refine List.pairwise_append.2 ⟨a3.sublist List.filter_sublist, List.pairwise_singleton _ _, fun a ha b hb => ?_⟩
      simp only [List.mem_singleton] at hb
      subst hb
      obtain ⟨b1, b2⟩ := a1 a (List.mem_filter.1 ha).1
      simp only [inB, Bool.and_eq_true, decide_eq_true_eq] at b2
      show a.id < nx
      omega
  have h6 : (putRows rows nx d).length ≤ 8 := by rw [putRows, List.length_append, List.length_singleton]; omega
  simp only [indexOkS, h5, h2, h6, inB, Bool.and_eq_true, decide_eq_true_eq, and_true, true_and]
  omega
theorem implPut_bad (fl : List Field) (rows : List DRow) (ents : List Entry) (nx : Int) (d : Doc) (hfl : FSm fl) (hr : RowsM rows) (he : EntSm ents) (hn : -9223372036854775808 ≤ nx ∧ nx ≤ 9223372036854775807) (hd : DSm d) (h : indexOkS fl rows ents nx = false) : R S0 37 [.agg [.sl (fl.map Field.pv), .sl (rows.map DRow.pvF), .sl (ents.map Entry.pvF), .int .i64 nx], .agg [.str d.key, .sl (d.cells.map Cell.pv)]] = some ⟨[none, none], .tup [.agg [.slo 3 [], .slo 3 [], .slo 3 [], .int .i64 0], .int .i64 0, .bool false]⟩ := by
  refine go37 rfl ?_; simp only [go_sem, ↓reduceIte, Nat.reduceAdd, Nat.reduceSub, Nat.reduceEqDiff, Nat.reduceLT, Nat.reduceLeDiff, Nat.reduceMul, Int.reduceNeg, Int.reduceToNat, Int.reduceEq, Int.reduceLT, Int.reduceLE, reduceCtorEq, Tryz.f37, hfl, hr, he, hn, hd, h]
theorem implPut_none (fl : List Field) (rows : List DRow) (ents : List Entry) (nx : Int) (d : Doc) (hfl : FSm fl) (hr : RowsM rows) (he : EntSm ents) (hn : -9223372036854775808 ≤ nx ∧ nx ≤ 9223372036854775807) (hd : DSm d) (h : indexOkS fl rows ents nx = true) (hc : canPut fl rows nx d = false) : R S0 37 [.agg [.sl (fl.map Field.pv), .sl (rows.map DRow.pvF), .sl (ents.map Entry.pvF), .int .i64 nx], .agg [.str d.key, .sl (d.cells.map Cell.pv)]] = some ⟨[none, none], .tup [.agg [.slo 3 (fl.map Field.pv), .slo 3 (rows.map DRow.pv), .slo 3 ((madeE fl rows).map Entry.pv), .int .i64 nx], .int .i64 0, .bool false]⟩ := by
  have hs := (indexOk_st h).st (by omega) (by omega)
  have hl : rows.length ≤ 1099511627776 := hr.1
  have hf1 : fl.length ≤ 1099511627776 := hfl.1
  rw [canPut] at hc
  cases c1 : docOk fl d with
  | false => 
    refine go37 rfl ?_; simp only [go_sem, ↓reduceIte, Nat.reduceAdd, Nat.reduceSub, Nat.reduceEqDiff, Nat.reduceLT, Nat.reduceLeDiff, Nat.reduceMul, Int.reduceNeg, Int.reduceToNat, Int.reduceEq, Int.reduceLT, Int.reduceLE, reduceCtorEq, Tryz.f37, hfl, hr, he, hn, hd, h, hs, hl, hf1, c1]
  | true =>
  by_cases c2 : nx = 999999999
  · refine go37 rfl ?_; simp only [go_sem, ↓reduceIte, Nat.reduceAdd, Nat.reduceSub, Nat.reduceEqDiff, Nat.reduceLT, Nat.reduceLeDiff, Nat.reduceMul, Int.reduceNeg, Int.reduceToNat, Int.reduceEq, Int.reduceLT, Int.reduceLE, reduceCtorEq, Tryz.f37, hfl, hr, he, hn, hd, h, hs, hl, hf1, c1, eq_true c2]
  · have c3 : ((lessKey rows d.key).length : Int) = 8 := by
      rw [c1, decide_eq_true (by exact c2)] at hc
      simp only [Bool.true_and, decide_eq_false_iff_not, ne_eq, Decidable.not_not] at hc
      omega
    refine go37 rfl ?_; simp only [go_sem, ↓reduceIte, Nat.reduceAdd, Nat.reduceSub, Nat.reduceEqDiff, Nat.reduceLT, Nat.reduceLeDiff, Nat.reduceMul, Int.reduceNeg, Int.reduceToNat, Int.reduceEq, Int.reduceLT, Int.reduceLE, reduceCtorEq, Tryz.f37, hfl, hr, he, hn, hd, h, hs, hl, hf1, c1, c2, c3]
theorem implPut_ok (fl : List Field) (rows : List DRow) (ents : List Entry) (nx : Int) (d : Doc) (hfl : FSm fl) (hr : RowsM rows) (he : EntSm ents) (hn : -9223372036854775808 ≤ nx ∧ nx ≤ 9223372036854775807) (hd : DSm d) (h : indexOkS fl rows ents nx = true) (hc : canPut fl rows nx d = true) : R S0 37 [.agg [.sl (fl.map Field.pv), .sl (rows.map DRow.pvF), .sl (ents.map Entry.pvF), .int .i64 nx], .agg [.str d.key, .sl (d.cells.map Cell.pv)]] = some ⟨[none, none], .tup [.agg [.slo 3 (fl.map Field.pv), .slo 3 ((putRows rows nx d).map DRow.pv), .slo 3 ((madeE fl (putRows rows nx d)).map Entry.pv), .int .i64 (nx + 1)], .int .i64 nx, .bool true]⟩ := by
  have hs : RowsSt (lessKey rows d.key ++ [DRow.mk nx (Doc.mk d.key d.cells)]) := (indexOk_st (putOk h hc)).st (by omega) (by omega)
  have hl : rows.length ≤ 1099511627776 := hr.1
  have hf1 : fl.length ≤ 1099511627776 := hfl.1
  obtain ⟨_, _, h3, h4, _⟩ := indexOk_parts h
  have hlk : (lessKey rows d.key).length ≤ rows.length := List.length_filter_le _ _
  have hlb : (lessKey rows d.key).length ≤ 1099511627776 := by omega
  have h4' : 0 ≤ nx ∧ nx ≤ 999999999 := by simpa [inB] using h4
  have hw : IntKind.i64.wrap (nx + 1) = nx + 1 := wrap_in (by omega) (by omega)
  simp only [canPut, Bool.and_eq_true, decide_eq_true_eq] at hc
  obtain ⟨c1, c2, c3⟩ := hc
  have c3' : ¬ ((lessKey rows d.key).length : Int) = 8 := by omega
  rw [putRows]
  refine go37 rfl ?_; simp only [go_sem, ↓reduceIte, Nat.reduceAdd, Nat.reduceSub, Nat.reduceEqDiff, Nat.reduceLT, Nat.reduceLeDiff, Nat.reduceMul, Int.reduceNeg, Int.reduceToNat, Int.reduceEq, Int.reduceLT, Int.reduceLE, reduceCtorEq, Tryz.f37, hfl, hr, he, hn, hd, h, hs, hl, hf1, c1, c2, c3', hw]
  exact ⟨by omega, by decide +kernel⟩
theorem specDrop_bad (fl : List Field) (rows : List DRow) (ents : List Entry) (nx : Int) (k : Str) (hfl : FSm fl) (hr : RowsM rows) (he : EntSm ents) (hn : -9223372036854775808 ≤ nx ∧ nx ≤ 9223372036854775807) (h : indexOkS fl rows ents nx = false) : R S0 31 [.agg [.sl (fl.map Field.pv), .sl (rows.map DRow.pvF), .sl (ents.map Entry.pvF), .int .i64 nx], .str k] = some ⟨[none, none], .tup [.agg [.sl [], .sl [], .sl [], .int .i64 0], .bool false]⟩ := by
  refine go31 rfl ?_; simp only [go_sem, ↓reduceIte, Nat.reduceAdd, Nat.reduceSub, Nat.reduceEqDiff, Nat.reduceLT, Nat.reduceLeDiff, Nat.reduceMul, Int.reduceNeg, Int.reduceToNat, Int.reduceEq, Int.reduceLT, Int.reduceLE, reduceCtorEq, Tryz.f31, hfl, hr, he, hn, h]
theorem specDrop_none (fl : List Field) (rows : List DRow) (ents : List Entry) (nx : Int) (k : Str) (hfl : FSm fl) (hr : RowsM rows) (he : EntSm ents) (hn : -9223372036854775808 ≤ nx ∧ nx ≤ 9223372036854775807) (h : indexOkS fl rows ents nx = true) (hk : keyIx rows k < 0) : R S0 31 [.agg [.sl (fl.map Field.pv), .sl (rows.map DRow.pvF), .sl (ents.map Entry.pvF), .int .i64 nx], .str k] = some ⟨[none, none], .tup [.agg [.sl (fl.map Field.pv), .sl (rows.map DRow.pvF), .sl ((madeE fl rows).map Entry.pvF), .int .i64 nx], .bool false]⟩ := by
  have hs := (indexOk_st h).st (by omega) (by omega)
  have hl : rows.length ≤ 1099511627776 := hr.1
  have hf1 : fl.length ≤ 1099511627776 := hfl.1
  have e := less_none hk
  refine go31 rfl ?_; simp only [go_sem, ↓reduceIte, Nat.reduceAdd, Nat.reduceSub, Nat.reduceEqDiff, Nat.reduceLT, Nat.reduceLeDiff, Nat.reduceMul, Int.reduceNeg, Int.reduceToNat, Int.reduceEq, Int.reduceLT, Int.reduceLE, reduceCtorEq, Tryz.f31, hfl, hr, he, hn, h, hk, hs, hl, hf1, e]
  decide +kernel
theorem specDrop_ok (fl : List Field) (rows : List DRow) (ents : List Entry) (nx : Int) (k : Str) (hfl : FSm fl) (hr : RowsM rows) (he : EntSm ents) (hn : -9223372036854775808 ≤ nx ∧ nx ≤ 9223372036854775807) (h : indexOkS fl rows ents nx = true) (hk : ¬ keyIx rows k < 0) : R S0 31 [.agg [.sl (fl.map Field.pv), .sl (rows.map DRow.pvF), .sl (ents.map Entry.pvF), .int .i64 nx], .str k] = some ⟨[none, none], .tup [.agg [.sl (fl.map Field.pv), .sl ((lessKey rows k).map DRow.pvF), .sl ((madeE fl (lessKey rows k)).map Entry.pvF), .int .i64 nx], .bool true]⟩ := by
  have hs := ((indexOk_st h).less k).st (by omega) (by omega)
  have hl : rows.length ≤ 1099511627776 := hr.1
  have hf1 : fl.length ≤ 1099511627776 := hfl.1
  have e : ((lessKey rows k).length : Int) < (rows.length : Int) := by have := less_lt hk; omega
  refine go31 rfl ?_; simp only [go_sem, ↓reduceIte, Nat.reduceAdd, Nat.reduceSub, Nat.reduceEqDiff, Nat.reduceLT, Nat.reduceLeDiff, Nat.reduceMul, Int.reduceNeg, Int.reduceToNat, Int.reduceEq, Int.reduceLT, Int.reduceLE, reduceCtorEq, Tryz.f31, hfl, hr, he, hn, h, hk, hs, hl, hf1, e]
  decide +kernel
theorem specPut_bad (fl : List Field) (rows : List DRow) (ents : List Entry) (nx : Int) (d : Doc) (hfl : FSm fl) (hr : RowsM rows) (he : EntSm ents) (hn : -9223372036854775808 ≤ nx ∧ nx ≤ 9223372036854775807) (hd : DSm d) (h : indexOkS fl rows ents nx = false) : R S0 35 [.agg [.sl (fl.map Field.pv), .sl (rows.map DRow.pvF), .sl (ents.map Entry.pvF), .int .i64 nx], .agg [.str d.key, .sl (d.cells.map Cell.pv)]] = some ⟨[none, none], .tup [.agg [.sl [], .sl [], .sl [], .int .i64 0], .int .i64 0, .bool false]⟩ := by
  refine go35 rfl ?_; simp only [go_sem, ↓reduceIte, Nat.reduceAdd, Nat.reduceSub, Nat.reduceEqDiff, Nat.reduceLT, Nat.reduceLeDiff, Nat.reduceMul, Int.reduceNeg, Int.reduceToNat, Int.reduceEq, Int.reduceLT, Int.reduceLE, reduceCtorEq, Tryz.f35, hfl, hr, he, hn, hd, h]
@[go_sem] theorem l4Copy_R (fl : List Field) (rows : List DRow) (ents : List Entry) (nx : Int) (hfl : fl.length ≤ 1099511627776) (hr : RowsSt rows) : R S0 92 [.agg [.sl (fl.map Field.pv), .sl (rows.map DRow.pvF), .sl (ents.map Entry.pvF), .int .i64 nx]] = some ⟨[none], .agg [.slo 3 (fl.map Field.pv), .slo 3 (rows.map DRow.pv), .slo 3 ((madeE fl rows).map Entry.pv), .int .i64 nx]⟩ := by
  refine go92 rfl ?_; simp only [go_sem, ↓reduceIte, Nat.reduceAdd, Nat.reduceSub, Nat.reduceEqDiff, Nat.reduceLT, Nat.reduceLeDiff, Nat.reduceMul, Int.reduceNeg, Int.reduceToNat, Int.reduceEq, Int.reduceLT, Int.reduceLE, reduceCtorEq, Tryz.f92, hfl, hr]
theorem specPut_none (fl : List Field) (rows : List DRow) (ents : List Entry) (nx : Int) (d : Doc) (hfl : FSm fl) (hr : RowsM rows) (he : EntSm ents) (hn : -9223372036854775808 ≤ nx ∧ nx ≤ 9223372036854775807) (hd : DSm d) (h : indexOkS fl rows ents nx = true) (hc : canPut fl rows nx d = false) : R S0 35 [.agg [.sl (fl.map Field.pv), .sl (rows.map DRow.pvF), .sl (ents.map Entry.pvF), .int .i64 nx], .agg [.str d.key, .sl (d.cells.map Cell.pv)]] = some ⟨[none, none], .tup [.agg [.sl (fl.map Field.pv), .sl (rows.map DRow.pvF), .sl ((madeE fl rows).map Entry.pvF), .int .i64 nx], .int .i64 0, .bool false]⟩ := by
  have hs := (indexOk_st h).st (by omega) (by omega)
  have hl : rows.length ≤ 1099511627776 := hr.1
  have hf1 : fl.length ≤ 1099511627776 := hfl.1
  obtain ⟨_, _, h3, h4, _⟩ := indexOk_parts h
  have h4' : 0 ≤ nx ∧ nx ≤ 999999999 := by simpa [inB] using h4
  rw [canPut] at hc
  cases c1 : docOk fl d with
  | false => 
    refine go35 rfl ?_; simp only [go_sem, ↓reduceIte, Nat.reduceAdd, Nat.reduceSub, Nat.reduceEqDiff, Nat.reduceLT, Nat.reduceLeDiff, Nat.reduceMul, Int.reduceNeg, Int.reduceToNat, Int.reduceEq, Int.reduceLT, Int.reduceLE, reduceCtorEq, Tryz.f35, hfl, hr, he, hn, hd, h, hs, hl, hf1, c1]
  | true =>
  by_cases c3 : (8 : Int) ≤ ((lessKey rows d.key).length : Int)
  · refine go35 rfl ?_; simp only [go_sem, ↓reduceIte, Nat.reduceAdd, Nat.reduceSub, Nat.reduceEqDiff, Nat.reduceLT, Nat.reduceLeDiff, Nat.reduceMul, Int.reduceNeg, Int.reduceToNat, Int.reduceEq, Int.reduceLT, Int.reduceLE, reduceCtorEq, Tryz.f35, hfl, hr, he, hn, hd, h, hs, hl, hf1, c1, c3]
  · have c2 : 999999999 ≤ nx := by
      rw [c1] at hc
      simp only [Bool.true_and, Bool.and_eq_false_iff, decide_eq_false_iff_not, ne_eq, Decidable.not_not] at hc
      omega
    refine go35 rfl ?_; simp only [go_sem, ↓reduceIte, Nat.reduceAdd, Nat.reduceSub, Nat.reduceEqDiff, Nat.reduceLT, Nat.reduceLeDiff, Nat.reduceMul, Int.reduceNeg, Int.reduceToNat, Int.reduceEq, Int.reduceLT, Int.reduceLE, reduceCtorEq, Tryz.f35, hfl, hr, he, hn, hd, h, hs, hl, hf1, c1, c2, c3]
theorem specPut_ok (fl : List Field) (rows : List DRow) (ents : List Entry) (nx : Int) (d : Doc) (hfl : FSm fl) (hr : RowsM rows) (he : EntSm ents) (hn : -9223372036854775808 ≤ nx ∧ nx ≤ 9223372036854775807) (hd : DSm d) (h : indexOkS fl rows ents nx = true) (hc : canPut fl rows nx d = true) : R S0 35 [.agg [.sl (fl.map Field.pv), .sl (rows.map DRow.pvF), .sl (ents.map Entry.pvF), .int .i64 nx], .agg [.str d.key, .sl (d.cells.map Cell.pv)]] = some ⟨[none, none], .tup [.agg [.sl (fl.map Field.pv), .sl ((putRows rows nx d).map DRow.pvF), .sl ((madeE fl (putRows rows nx d)).map Entry.pvF), .int .i64 (nx + 1)], .int .i64 nx, .bool true]⟩ := by
  have hs : RowsSt (lessKey rows d.key ++ [DRow.mk nx (Doc.mk d.key d.cells)]) := (indexOk_st (putOk h hc)).st (by omega) (by omega)
  have hl : rows.length ≤ 1099511627776 := hr.1
  have hf1 : fl.length ≤ 1099511627776 := hfl.1
  obtain ⟨_, _, h3, h4, _⟩ := indexOk_parts h
  have hlk : (lessKey rows d.key).length ≤ rows.length := List.length_filter_le _ _
  have hlb : (lessKey rows d.key).length ≤ 1099511627776 := by omega
  have h4' : 0 ≤ nx ∧ nx ≤ 999999999 := by simpa [inB] using h4
  have hw : IntKind.i64.wrap (nx + 1) = nx + 1 := wrap_in (by omega) (by omega)
  simp only [canPut, Bool.and_eq_true, decide_eq_true_eq] at hc
  obtain ⟨c1, c2, c3⟩ := hc
  have c3' : ¬ (8 : Int) ≤ ((lessKey rows d.key).length : Int) := by omega
  have c2' : ¬ 999999999 ≤ nx := by omega
  rw [putRows]
  refine go35 rfl ?_; simp only [go_sem, ↓reduceIte, Nat.reduceAdd, Nat.reduceSub, Nat.reduceEqDiff, Nat.reduceLT, Nat.reduceLeDiff, Nat.reduceMul, Int.reduceNeg, Int.reduceToNat, Int.reduceEq, Int.reduceLT, Int.reduceLE, reduceCtorEq, Tryz.f35, hfl, hr, he, hn, hd, h, hs, hl, hf1, c1, c2', c3', hw]
  exact ⟨by omega, by decide +kernel⟩
end Go.Proofs.YtmanllfmgghadaaGreatDoor.PVE
