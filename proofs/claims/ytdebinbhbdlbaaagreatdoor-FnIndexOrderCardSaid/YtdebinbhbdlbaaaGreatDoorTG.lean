/- Comparisons of what is the same; drawn numbers and keys; the law of keys. -/
import Derived.Test.YtdebinbhbdlbaaaGreatDoorTF
set_option linter.unusedVariables false
set_option linter.unusedSimpArgs false
set_option maxRecDepth 100000
namespace Go.Proofs.YtdebinbhbdlbaaaGreatDoor.PVE
open PV Query
@[go_sem] theorem sdInts_R (a : List Int) (ha : a.length ≤ 1099511627776) : R S0 21 [.sl (a.map (PV.int .i64)), .sl (a.map (PV.int .i64))] = some ⟨[none, none], .bool true⟩ := by
  refine go21 rfl ?_; simp only [go_sem, ↓reduceIte, Nat.reduceAdd, Nat.reduceSub, Nat.reduceEqDiff, Nat.reduceLT, Nat.reduceLeDiff, Nat.reduceMul, Int.reduceNeg, Int.reduceToNat, Int.reduceEq, Int.reduceLT, Int.reduceLE, reduceCtorEq, Tryz.f21]
  refine ends_for a.length (by omega) (fun i _ => mkSt [(0, .sl (a.map (PV.int .i64))), (1, .sl (a.map (PV.int .i64))), (5, .int .i64 i)] []) (fun _ _ => True) 0 () (by omega) trivial ?_ ?_
  · rintro i _ hi - hw ih
    obtain ⟨x, hx, hg, hd⟩ := drop_get hi default
    have ih' := ih () trivial
    simp only [go_sem, ↓reduceIte, Nat.reduceAdd, Nat.reduceSub, Nat.reduceEqDiff, Nat.reduceLT, Nat.reduceLeDiff, Nat.reduceMul, Int.reduceNeg, Int.reduceToNat, Int.reduceEq, Int.reduceLT, Int.reduceLE, reduceCtorEq, hi, hw, hg, hx]
    exact ih'
  · rintro _ -
    simp only [go_sem, ↓reduceIte, Nat.reduceAdd, Nat.reduceSub, Nat.reduceEqDiff, Nat.reduceLT, Nat.reduceLeDiff, Nat.reduceMul, Int.reduceNeg, Int.reduceToNat, Int.reduceEq, Int.reduceLT, Int.reduceLE, reduceCtorEq]
@[go_sem] theorem sdFieldsI_R (a : List Field) (ha : a.length ≤ 1099511627776) : R S0 55 [.sl (a.map Field.pv), .sl (a.map Field.pv)] = some ⟨[none, none], .bool true⟩ := by
  refine go55 rfl ?_; simp only [go_sem, ↓reduceIte, Nat.reduceAdd, Nat.reduceSub, Nat.reduceEqDiff, Nat.reduceLT, Nat.reduceLeDiff, Nat.reduceMul, Int.reduceNeg, Int.reduceToNat, Int.reduceEq, Int.reduceLT, Int.reduceLE, reduceCtorEq, Tryz.f55]
  refine ends_for a.length (by omega) (fun i _ => mkSt [(0, .sl (a.map Field.pv)), (1, .sl (a.map Field.pv)), (5, .int .i64 i)] []) (fun _ _ => True) 0 () (by omega) trivial ?_ ?_
  · rintro i _ hi - hw ih
    obtain ⟨x, hx, hg, hd⟩ := drop_get hi default
    have ih' := ih () trivial
    simp only [go_sem, ↓reduceIte, Nat.reduceAdd, Nat.reduceSub, Nat.reduceEqDiff, Nat.reduceLT, Nat.reduceLeDiff, Nat.reduceMul, Int.reduceNeg, Int.reduceToNat, Int.reduceEq, Int.reduceLT, Int.reduceLE, reduceCtorEq, hi, hw, hg, hx]
    exact ih'
  · rintro _ -
    simp only [go_sem, ↓reduceIte, Nat.reduceAdd, Nat.reduceSub, Nat.reduceEqDiff, Nat.reduceLT, Nat.reduceLeDiff, Nat.reduceMul, Int.reduceNeg, Int.reduceToNat, Int.reduceEq, Int.reduceLT, Int.reduceLE, reduceCtorEq]
@[go_sem] theorem sdDocI_R (d : Doc) (hd : d.cells.length ≤ 1099511627776) : R S0 56 [.agg [.str d.key, .sl (d.cells.map Cell.pv)], .agg [.str d.key, .sl (d.cells.map Cell.pv)]] = some ⟨[none, none], .bool true⟩ := by
  refine go56 rfl ?_; simp only [go_sem, ↓reduceIte, Nat.reduceAdd, Nat.reduceSub, Nat.reduceEqDiff, Nat.reduceLT, Nat.reduceLeDiff, Nat.reduceMul, Int.reduceNeg, Int.reduceToNat, Int.reduceEq, Int.reduceLT, Int.reduceLE, reduceCtorEq, Tryz.f56]
  refine ends_for d.cells.length (by omega) (fun i _ => mkSt [(2, .addr 0 0 0), (3, .addr 1 0 0), (5, .int .i64 i)] [.pto [.str d.key, .sl (d.cells.map Cell.pv)], .pto [.str d.key, .sl (d.cells.map Cell.pv)]]) (fun _ _ => True) 0 () (by omega) trivial ?_ ?_
  · rintro i _ hi - hw ih
    obtain ⟨x, hx, hg, hd⟩ := drop_get hi default
    have ih' := ih () trivial
    simp only [go_sem, ↓reduceIte, Nat.reduceAdd, Nat.reduceSub, Nat.reduceEqDiff, Nat.reduceLT, Nat.reduceLeDiff, Nat.reduceMul, Int.reduceNeg, Int.reduceToNat, Int.reduceEq, Int.reduceLT, Int.reduceLE, reduceCtorEq, hi, hw, hg, hx]
    exact ih'
  · rintro _ -
    simp only [go_sem, ↓reduceIte, Nat.reduceAdd, Nat.reduceSub, Nat.reduceEqDiff, Nat.reduceLT, Nat.reduceLeDiff, Nat.reduceMul, Int.reduceNeg, Int.reduceToNat, Int.reduceEq, Int.reduceLT, Int.reduceLE, reduceCtorEq]
@[go_sem] theorem sdPostsI_R (a : List Post) (ha : a.length ≤ 1099511627776) (hp : ∀ p ∈ a, p.ats.length ≤ 1099511627776) : R S0 39 [.sl (a.map Post.pvF), .sl (a.map Post.pvF)] = some ⟨[none, none], .bool true⟩ := by
  refine go39 rfl ?_; simp only [go_sem, ↓reduceIte, Nat.reduceAdd, Nat.reduceSub, Nat.reduceEqDiff, Nat.reduceLT, Nat.reduceLeDiff, Nat.reduceMul, Int.reduceNeg, Int.reduceToNat, Int.reduceEq, Int.reduceLT, Int.reduceLE, reduceCtorEq, Tryz.f39]
  refine ends_for a.length (by omega) (fun i _ => mkSt [(0, .sl (a.map Post.pvF)), (1, .sl (a.map Post.pvF)), (5, .int .i64 i)] []) (fun _ _ => True) 0 () (by omega) trivial ?_ ?_
  · rintro i _ hi - hw ih
    obtain ⟨x, hx, hg, hd⟩ := drop_get hi default
    have hxp := hp x (List.mem_of_getElem? hx)
    have ih' := ih () trivial
    simp only [go_sem, ↓reduceIte, Nat.reduceAdd, Nat.reduceSub, Nat.reduceEqDiff, Nat.reduceLT, Nat.reduceLeDiff, Nat.reduceMul, Int.reduceNeg, Int.reduceToNat, Int.reduceEq, Int.reduceLT, Int.reduceLE, reduceCtorEq, hi, hw, hg, hx, hxp]
    exact ih'
  · rintro _ -
    simp only [go_sem, ↓reduceIte, Nat.reduceAdd, Nat.reduceSub, Nat.reduceEqDiff, Nat.reduceLT, Nat.reduceLeDiff, Nat.reduceMul, Int.reduceNeg, Int.reduceToNat, Int.reduceEq, Int.reduceLT, Int.reduceLE, reduceCtorEq]
@[go_sem] theorem sdIndexI_R (fl : List Field) (rows : List DRow) (ents : List Entry) (nx : Int) (hfl : fl.length ≤ 1099511627776) (hr : RowsM rows) (he : EntSm ents) : R S0 16 [.agg [.sl (fl.map Field.pv), .sl (rows.map DRow.pvF), .sl (ents.map Entry.pvF), .int .i64 nx], .agg [.sl (fl.map Field.pv), .sl (rows.map DRow.pvF), .sl (ents.map Entry.pvF), .int .i64 nx]] = some ⟨[none, none], .bool true⟩ := by
  obtain ⟨hrl, hrs⟩ := id hr
  obtain ⟨hel, hes⟩ := id he
  refine go16 rfl ?_; simp only [go_sem, ↓reduceIte, Nat.reduceAdd, Nat.reduceSub, Nat.reduceEqDiff, Nat.reduceLT, Nat.reduceLeDiff, Nat.reduceMul, Int.reduceNeg, Int.reduceToNat, Int.reduceEq, Int.reduceLT, Int.reduceLE, reduceCtorEq, Tryz.f16, hfl]
  refine ends_for rows.length (by omega) (fun i _ => mkSt [(2, .addr 0 0 0), (3, .addr 1 0 0), (5, .int .i64 i)] [.pto [.sl (fl.map Field.pv), .sl (rows.map DRow.pvF), .sl (ents.map Entry.pvF), .int .i64 nx], .pto [.sl (fl.map Field.pv), .sl (rows.map DRow.pvF), .sl (ents.map Entry.pvF), .int .i64 nx]]) (fun _ _ => True) 0 () (by omega) trivial ?_ ?_
  · rintro i _ hi - hw ih
    obtain ⟨x, hx, hg, hd⟩ := drop_get hi default
    obtain ⟨_, hxp, _⟩ := hrs x (List.mem_of_getElem? hx)
    have ih' := ih () trivial
    simp only [go_sem, ↓reduceIte, Nat.reduceAdd, Nat.reduceSub, Nat.reduceEqDiff, Nat.reduceLT, Nat.reduceLeDiff, Nat.reduceMul, Int.reduceNeg, Int.reduceToNat, Int.reduceEq, Int.reduceLT, Int.reduceLE, reduceCtorEq, hi, hw, hg, hx, hxp]
    exact ih'
  · rintro _ -
    simp only [go_sem, ↓reduceIte, Nat.reduceAdd, Nat.reduceSub, Nat.reduceEqDiff, Nat.reduceLT, Nat.reduceLeDiff, Nat.reduceMul, Int.reduceNeg, Int.reduceToNat, Int.reduceEq, Int.reduceLT, Int.reduceLE, reduceCtorEq]
    refine ends_for ents.length (by omega) (fun i _ => mkSt [(2, .addr 0 0 0), (3, .addr 1 0 0), (6, .int .i64 i)] [.pto [.sl (fl.map Field.pv), .sl (rows.map DRow.pvF), .sl (ents.map Entry.pvF), .int .i64 nx], .pto [.sl (fl.map Field.pv), .sl (rows.map DRow.pvF), .sl (ents.map Entry.pvF), .int .i64 nx]]) (fun _ _ => True) 0 () (by omega) trivial ?_ ?_
    · rintro i _ hi - hw ih
      obtain ⟨x, hx, hg, hd⟩ := drop_get hi default
      obtain ⟨hxp, hxq⟩ := hes x (List.mem_of_getElem? hx)
      have ih' := ih () trivial
      have hP := sdPostsI_R x.posts hxp hxq
      simp only [go_sem, ↓reduceIte, Nat.reduceAdd, Nat.reduceSub, Nat.reduceEqDiff, Nat.reduceLT, Nat.reduceLeDiff, Nat.reduceMul, Int.reduceNeg, Int.reduceToNat, Int.reduceEq, Int.reduceLT, Int.reduceLE, reduceCtorEq, hi, hw, hg, hx, hP]
      exact ih'
    · rintro _ -
      simp only [go_sem, ↓reduceIte, Nat.reduceAdd, Nat.reduceSub, Nat.reduceEqDiff, Nat.reduceLT, Nat.reduceLeDiff, Nat.reduceMul, Int.reduceNeg, Int.reduceToNat, Int.reduceEq, Int.reduceLT, Int.reduceLE, reduceCtorEq]
end Go.Proofs.YtdebinbhbdlbaaaGreatDoor.PVE
namespace Go.Proofs.YtdebinbhbdlbaaaGreatDoor.PVE
open PV Query
theorem less_none {rows : List DRow} {k : Str} (h : keyIx rows k < 0) : lessKey rows k = rows := by
  rw [keyIx_neg] at h
  rw [lessKey, List.filter_eq_self]
  intro a ha
  rw [List.any_eq_false] at h
  have := h a ha
  simpa using this
theorem less_lt {rows : List DRow} {k : Str} (h : ¬ keyIx rows k < 0) : (lessKey rows k).length < rows.length := by
  rw [keyIx_neg] at h
  simp only [Bool.not_eq_false, List.any_eq_true, decide_eq_true_eq] at h
  obtain ⟨r, hr, he⟩ := h
  rw [lessKey]
  refine List.length_filter_lt_length_iff_exists.2 ⟨r, hr, by simp [he]⟩
theorem key_at {rows : List DRow} (hp : rows.Pairwise (fun a b => a.doc.key ≠ b.doc.key)) {r : DRow} (hr : r ∈ rows) : ∃ i : Nat, i < rows.length ∧ keyIx rows r.doc.key = i ∧ rows[i]? = some r := by
  obtain ⟨i, hi, rfl⟩ := List.getElem_of_mem hr
  refine ⟨i, hi, (keyIx_at hi).2 fun j hj => ?_, List.getElem?_eq_getElem hi⟩
  exact (List.pairwise_iff_getElem.1 hp) j i (by omega) hi hj
def putRows (rows : List DRow) (nx : Int) (d : Doc) : List DRow := lessKey rows d.key ++ [DRow.mk nx (Doc.mk d.key d.cells)]
def canPut (fl : List Field) (rows : List DRow) (nx : Int) (d : Doc) : Bool := docOk fl d && (decide (nx ≠ 999999999) && decide ((lessKey rows d.key).length ≠ 8))
theorem doc_eta (d : Doc) : Doc.mk d.key d.cells = d := by cases d; rfl
theorem putOk {fl : List Field} {rows : List DRow} {ents : List Entry} {nx : Int} (h : indexOkS fl rows ents nx = true) {d : Doc} (hd : canPut fl rows nx d = true) : indexOkS fl (putRows rows nx d) (madeE fl (putRows rows nx d)) (nx + 1) = true := by
  obtain ⟨h1, h2, h3, h4, _⟩ := indexOk_parts h
  obtain ⟨a1, a2, a3⟩ := rowsOk_iff.1 h1
  simp only [canPut, Bool.and_eq_true, decide_eq_true_eq] at hd
  obtain ⟨d1, d2, d3⟩ := hd
  have hl : (lessKey rows d.key).length ≤ rows.length := List.length_filter_le _ _
  have h4' : 0 ≤ nx ∧ nx ≤ 999999999 := by simpa [inB] using h4
  have h5 : rowsOkTo fl (putRows rows nx d) (nx + 1) (putRows rows nx d).length = true := by
    refine rowsOk_iff.2 ⟨fun r hr => ?_, ?_, ?_⟩
    · rcases List.mem_append.1 hr with hr | hr
      · obtain ⟨b1, b2⟩ := a1 r (List.mem_filter.1 hr).1
        refine ⟨b1, ?_⟩
        simp only [inB, Bool.and_eq_true, decide_eq_true_eq] at b2 ⊢
        omega
      · simp only [List.mem_singleton] at hr
        subst hr
        refine ⟨by rw [doc_eta]; exact d1, ?_⟩
        simp only [inB, Bool.and_eq_true, decide_eq_true_eq]
        omega
    · refine List.pairwise_append.2 ⟨a2.sublist List.filter_sublist, List.pairwise_singleton _ _, fun a ha b hb => ?_⟩
      simp only [List.mem_singleton] at hb
      subst hb
      have := (List.mem_filter.1 ha).2
      simpa using this
    · refine List.pairwise_append.2 ⟨a3.sublist List.filter_sublist, List.pairwise_singleton _ _, fun a ha b hb => ?_⟩
      simp only [List.mem_singleton] at hb
      subst hb
      obtain ⟨b1, b2⟩ := a1 a (List.mem_filter.1 ha).1
      simp only [inB, Bool.and_eq_true, decide_eq_true_eq] at b2
      show a.id < nx
      omega
  have h6 : (putRows rows nx d).length ≤ 8 := by rw [putRows, List.length_append, List.length_singleton]; omega
  simp only [indexOkS, h5, h2, h6, inB, Bool.and_eq_true, decide_eq_true_eq, and_true, true_and]
  omega
theorem implPut_bad (fl : List Field) (rows : List DRow) (ents : List Entry) (nx : Int) (d : Doc) (hfl : FSm fl) (hr : RowsM rows) (he : EntSm ents) (hn : -9223372036854775807 ≤ nx ∧ nx ≤ 9223372036854775807) (hd : DSm d) (h : indexOkS fl rows ents nx = false) : R S0 13 [.agg [.sl (fl.map Field.pv), .sl (rows.map DRow.pvF), .sl (ents.map Entry.pvF), .int .i64 nx], .agg [.str d.key, .sl (d.cells.map Cell.pv)]] = some ⟨[none, none], .tup [.agg [.sl [], .sl [], .sl [], .int .i64 0], .int .i64 0, .bool false]⟩ := by
  refine go13 rfl ?_; simp only [go_sem, ↓reduceIte, Nat.reduceAdd, Nat.reduceSub, Nat.reduceEqDiff, Nat.reduceLT, Nat.reduceLeDiff, Nat.reduceMul, Int.reduceNeg, Int.reduceToNat, Int.reduceEq, Int.reduceLT, Int.reduceLE, reduceCtorEq, Tryz.f13, hfl, hr, he, hn, hd, h]
theorem implPut_none (fl : List Field) (rows : List DRow) (ents : List Entry) (nx : Int) (d : Doc) (hfl : FSm fl) (hr : RowsM rows) (he : EntSm ents) (hn : -9223372036854775807 ≤ nx ∧ nx ≤ 9223372036854775807) (hd : DSm d) (h : indexOkS fl rows ents nx = true) (hc : canPut fl rows nx d = false) : R S0 13 [.agg [.sl (fl.map Field.pv), .sl (rows.map DRow.pvF), .sl (ents.map Entry.pvF), .int .i64 nx], .agg [.str d.key, .sl (d.cells.map Cell.pv)]] = some ⟨[none, none], .tup [.agg [.sl (fl.map Field.pv), .sl (rows.map DRow.pvF), .sl ((madeE fl rows).map Entry.pvF), .int .i64 nx], .int .i64 0, .bool false]⟩ := by
  have hs := (indexOk_st h).st (by omega) (by omega)
  have hl : rows.length ≤ 1099511627776 := hr.1
  have hf1 : fl.length ≤ 1099511627776 := hfl.1
  rw [canPut] at hc
  cases c1 : docOk fl d with
  | false => 
    refine go13 rfl ?_; simp only [go_sem, ↓reduceIte, Nat.reduceAdd, Nat.reduceSub, Nat.reduceEqDiff, Nat.reduceLT, Nat.reduceLeDiff, Nat.reduceMul, Int.reduceNeg, Int.reduceToNat, Int.reduceEq, Int.reduceLT, Int.reduceLE, reduceCtorEq, Tryz.f13, hfl, hr, he, hn, hd, h, hs, hl, hf1, c1]
  | true =>
  by_cases c2 : nx = 999999999
  · refine go13 rfl ?_; simp only [go_sem, ↓reduceIte, Nat.reduceAdd, Nat.reduceSub, Nat.reduceEqDiff, Nat.reduceLT, Nat.reduceLeDiff, Nat.reduceMul, Int.reduceNeg, Int.reduceToNat, Int.reduceEq, Int.reduceLT, Int.reduceLE, reduceCtorEq, Tryz.f13, hfl, hr, he, hn, hd, h, hs, hl, hf1, c1, eq_true c2]
  · have c3 : ((lessKey rows d.key).length : Int) = 8 := by
      rw [c1, decide_eq_true (by exact c2)] at hc
      simp only [Bool.true_and, decide_eq_false_iff_not, ne_eq, Decidable.not_not] at hc
      omega
    refine go13 rfl ?_; simp only [go_sem, ↓reduceIte, Nat.reduceAdd, Nat.reduceSub, Nat.reduceEqDiff, Nat.reduceLT, Nat.reduceLeDiff, Nat.reduceMul, Int.reduceNeg, Int.reduceToNat, Int.reduceEq, Int.reduceLT, Int.reduceLE, reduceCtorEq, Tryz.f13, hfl, hr, he, hn, hd, h, hs, hl, hf1, c1, c2, c3]
theorem implPut_ok (fl : List Field) (rows : List DRow) (ents : List Entry) (nx : Int) (d : Doc) (hfl : FSm fl) (hr : RowsM rows) (he : EntSm ents) (hn : -9223372036854775807 ≤ nx ∧ nx ≤ 9223372036854775807) (hd : DSm d) (h : indexOkS fl rows ents nx = true) (hc : canPut fl rows nx d = true) : R S0 13 [.agg [.sl (fl.map Field.pv), .sl (rows.map DRow.pvF), .sl (ents.map Entry.pvF), .int .i64 nx], .agg [.str d.key, .sl (d.cells.map Cell.pv)]] = some ⟨[none, none], .tup [.agg [.sl (fl.map Field.pv), .sl ((putRows rows nx d).map DRow.pvF), .sl ((madeE fl (putRows rows nx d)).map Entry.pvF), .int .i64 (nx + 1)], .int .i64 nx, .bool true]⟩ := by
  have hs : RowsSt (lessKey rows d.key ++ [DRow.mk nx (Doc.mk d.key d.cells)]) := (indexOk_st (putOk h hc)).st (by omega) (by omega)
  have hl : rows.length ≤ 1099511627776 := hr.1
  have hf1 : fl.length ≤ 1099511627776 := hfl.1
  obtain ⟨_, _, h3, h4, _⟩ := indexOk_parts h
  have hlk : (lessKey rows d.key).length ≤ rows.length := List.length_filter_le _ _
  have hlb : (lessKey rows d.key).length ≤ 1099511627776 := by omega
  have h4' : 0 ≤ nx ∧ nx ≤ 999999999 := by simpa [inB] using h4
  have hw : IntKind.i64.wrap (nx + 1) = nx + 1 := wrap_in (by omega) (by omega)
  simp only [canPut, Bool.and_eq_true, decide_eq_true_eq] at hc
  obtain ⟨c1, c2, c3⟩ := hc
  have c3' : ¬ ((lessKey rows d.key).length : Int) = 8 := by omega
  rw [putRows]
  refine go13 rfl ?_; simp only [go_sem, ↓reduceIte, Nat.reduceAdd, Nat.reduceSub, Nat.reduceEqDiff, Nat.reduceLT, Nat.reduceLeDiff, Nat.reduceMul, Int.reduceNeg, Int.reduceToNat, Int.reduceEq, Int.reduceLT, Int.reduceLE, reduceCtorEq, Tryz.f13, hfl, hr, he, hn, hd, h, hs, hl, hf1, c1, c2, c3', hw]
  exact ⟨by omega, by decide +kernel⟩
theorem implDoc_none (fl : List Field) (rows : List DRow) (ents : List Entry) (nx : Int) (k : Str) (hfl : FSm fl) (hr : RowsM rows) (he : EntSm ents) (hn : -9223372036854775807 ≤ nx ∧ nx ≤ 9223372036854775807) (h : indexOkS fl rows ents nx = true) (hk : keyIx rows k < 0) : R S0 18 [.agg [.sl (fl.map Field.pv), .sl (rows.map DRow.pvF), .sl (ents.map Entry.pvF), .int .i64 nx], .str k] = some ⟨[none, none], .tup [.agg [.str [], .slo 2 []], .bool false]⟩ := by
  have hl : rows.length ≤ 1099511627776 := hr.1
  refine go18 rfl ?_; simp only [go_sem, ↓reduceIte, Nat.reduceAdd, Nat.reduceSub, Nat.reduceEqDiff, Nat.reduceLT, Nat.reduceLeDiff, Nat.reduceMul, Int.reduceNeg, Int.reduceToNat, Int.reduceEq, Int.reduceLT, Int.reduceLE, reduceCtorEq, Tryz.f18, hfl, hr, he, hn, h, hk, hl]
theorem implDoc_ok (fl : List Field) (rows : List DRow) (ents : List Entry) (nx : Int) (k : Str) (hfl : FSm fl) (hr : RowsM rows) (he : EntSm ents) (hn : -9223372036854775807 ≤ nx ∧ nx ≤ 9223372036854775807) (h : indexOkS fl rows ents nx = true) (i : Nat) (r : DRow) (hk : keyIx rows k = i) (hx : rows[i]? = some r) : R S0 18 [.agg [.sl (fl.map Field.pv), .sl (rows.map DRow.pvF), .sl (ents.map Entry.pvF), .int .i64 nx], .str k] = some ⟨[none, none], .tup [.agg [.str r.doc.key, .slo 2 (r.doc.cells.map Cell.pv)], .bool true]⟩ := by
  have hl : rows.length ≤ 1099511627776 := hr.1
  have hi : i < rows.length := by
    rcases Nat.lt_or_ge i rows.length with h | h
    · exact h
    · rw [List.getElem?_eq_none h] at hx; cases hx
  obtain ⟨x, hx2, hg, _⟩ := drop_get hi default
  rw [hx] at hx2
  obtain rfl := Option.some.inj hx2
  obtain ⟨_, hxc, _⟩ := hr.2 r (List.mem_of_getElem? hx)
  refine go18 rfl ?_; simp only [go_sem, ↓reduceIte, Nat.reduceAdd, Nat.reduceSub, Nat.reduceEqDiff, Nat.reduceLT, Nat.reduceLeDiff, Nat.reduceMul, Int.reduceNeg, Int.reduceToNat, Int.reduceEq, Int.reduceLT, Int.reduceLE, reduceCtorEq, Tryz.f18, hfl, hr, he, hn, h, hk, hl, hi, hx, hg, hxc]
  omega
theorem specDrop_bad (fl : List Field) (rows : List DRow) (ents : List Entry) (nx : Int) (k : Str) (hfl : FSm fl) (hr : RowsM rows) (he : EntSm ents) (hn : -9223372036854775807 ≤ nx ∧ nx ≤ 9223372036854775807) (h : indexOkS fl rows ents nx = false) : R S0 24 [.agg [.sl (fl.map Field.pv), .sl (rows.map DRow.pvF), .sl (ents.map Entry.pvF), .int .i64 nx], .str k] = some ⟨[none, none], .tup [.agg [.sl [], .sl [], .sl [], .int .i64 0], .bool false]⟩ := by
  refine go24 rfl ?_; simp only [go_sem, ↓reduceIte, Nat.reduceAdd, Nat.reduceSub, Nat.reduceEqDiff, Nat.reduceLT, Nat.reduceLeDiff, Nat.reduceMul, Int.reduceNeg, Int.reduceToNat, Int.reduceEq, Int.reduceLT, Int.reduceLE, reduceCtorEq, Tryz.f24, hfl, hr, he, hn, h]
theorem specDrop_none (fl : List Field) (rows : List DRow) (ents : List Entry) (nx : Int) (k : Str) (hfl : FSm fl) (hr : RowsM rows) (he : EntSm ents) (hn : -9223372036854775807 ≤ nx ∧ nx ≤ 9223372036854775807) (h : indexOkS fl rows ents nx = true) (hk : keyIx rows k < 0) : R S0 24 [.agg [.sl (fl.map Field.pv), .sl (rows.map DRow.pvF), .sl (ents.map Entry.pvF), .int .i64 nx], .str k] = some ⟨[none, none], .tup [.agg [.sl (fl.map Field.pv), .sl (rows.map DRow.pvF), .sl ((madeE fl rows).map Entry.pvF), .int .i64 nx], .bool false]⟩ := by
  have hs := (indexOk_st h).st (by omega) (by omega)
  have hl : rows.length ≤ 1099511627776 := hr.1
  have hf1 : fl.length ≤ 1099511627776 := hfl.1
  have e := less_none hk
  refine go24 rfl ?_; simp only [go_sem, ↓reduceIte, Nat.reduceAdd, Nat.reduceSub, Nat.reduceEqDiff, Nat.reduceLT, Nat.reduceLeDiff, Nat.reduceMul, Int.reduceNeg, Int.reduceToNat, Int.reduceEq, Int.reduceLT, Int.reduceLE, reduceCtorEq, Tryz.f24, hfl, hr, he, hn, h, hk, hs, hl, hf1, e]
  decide +kernel
theorem specDrop_ok (fl : List Field) (rows : List DRow) (ents : List Entry) (nx : Int) (k : Str) (hfl : FSm fl) (hr : RowsM rows) (he : EntSm ents) (hn : -9223372036854775807 ≤ nx ∧ nx ≤ 9223372036854775807) (h : indexOkS fl rows ents nx = true) (hk : ¬ keyIx rows k < 0) : R S0 24 [.agg [.sl (fl.map Field.pv), .sl (rows.map DRow.pvF), .sl (ents.map Entry.pvF), .int .i64 nx], .str k] = some ⟨[none, none], .tup [.agg [.sl (fl.map Field.pv), .sl ((lessKey rows k).map DRow.pvF), .sl ((madeE fl (lessKey rows k)).map Entry.pvF), .int .i64 nx], .bool true]⟩ := by
  have hs := ((indexOk_st h).less k).st (by omega) (by omega)
  have hl : rows.length ≤ 1099511627776 := hr.1
  have hf1 : fl.length ≤ 1099511627776 := hfl.1
  have e : ((lessKey rows k).length : Int) < (rows.length : Int) := by have := less_lt hk; omega
  refine go24 rfl ?_; simp only [go_sem, ↓reduceIte, Nat.reduceAdd, Nat.reduceSub, Nat.reduceEqDiff, Nat.reduceLT, Nat.reduceLeDiff, Nat.reduceMul, Int.reduceNeg, Int.reduceToNat, Int.reduceEq, Int.reduceLT, Int.reduceLE, reduceCtorEq, Tryz.f24, hfl, hr, he, hn, h, hk, hs, hl, hf1, e]
  decide +kernel
theorem specPut_bad (fl : List Field) (rows : List DRow) (ents : List Entry) (nx : Int) (d : Doc) (hfl : FSm fl) (hr : RowsM rows) (he : EntSm ents) (hn : -9223372036854775807 ≤ nx ∧ nx ≤ 9223372036854775807) (hd : DSm d) (h : indexOkS fl rows ents nx = false) : R S0 14 [.agg [.sl (fl.map Field.pv), .sl (rows.map DRow.pvF), .sl (ents.map Entry.pvF), .int .i64 nx], .agg [.str d.key, .sl (d.cells.map Cell.pv)]] = some ⟨[none, none], .tup [.agg [.sl [], .sl [], .sl [], .int .i64 0], .int .i64 0, .bool false]⟩ := by
  refine go14 rfl ?_; simp only [go_sem, ↓reduceIte, Nat.reduceAdd, Nat.reduceSub, Nat.reduceEqDiff, Nat.reduceLT, Nat.reduceLeDiff, Nat.reduceMul, Int.reduceNeg, Int.reduceToNat, Int.reduceEq, Int.reduceLT, Int.reduceLE, reduceCtorEq, Tryz.f14, hfl, hr, he, hn, hd, h]
@[go_sem] theorem l4Copy_R (fl : List Field) (rows : List DRow) (ents : List Entry) (nx : Int) (hfl : fl.length ≤ 1099511627776) (hr : RowsSt rows) : R S0 52 [.agg [.sl (fl.map Field.pv), .sl (rows.map DRow.pvF), .sl (ents.map Entry.pvF), .int .i64 nx]] = some ⟨[none], .agg [.slo 3 (fl.map Field.pv), .slo 3 (rows.map DRow.pv), .slo 3 ((madeE fl rows).map Entry.pv), .int .i64 nx]⟩ := by
  refine go52 rfl ?_; simp only [go_sem, ↓reduceIte, Nat.reduceAdd, Nat.reduceSub, Nat.reduceEqDiff, Nat.reduceLT, Nat.reduceLeDiff, Nat.reduceMul, Int.reduceNeg, Int.reduceToNat, Int.reduceEq, Int.reduceLT, Int.reduceLE, reduceCtorEq, Tryz.f52, hfl, hr]
theorem specPut_none (fl : List Field) (rows : List DRow) (ents : List Entry) (nx : Int) (d : Doc) (hfl : FSm fl) (hr : RowsM rows) (he : EntSm ents) (hn : -9223372036854775807 ≤ nx ∧ nx ≤ 9223372036854775807) (hd : DSm d) (h : indexOkS fl rows ents nx = true) (hc : canPut fl rows nx d = false) : R S0 14 [.agg [.sl (fl.map Field.pv), .sl (rows.map DRow.pvF), .sl (ents.map Entry.pvF), .int .i64 nx], .agg [.str d.key, .sl (d.cells.map Cell.pv)]] = some ⟨[none, none], .tup [.agg [.sl (fl.map Field.pv), .sl (rows.map DRow.pvF), .sl ((madeE fl rows).map Entry.pvF), .int .i64 nx], .int .i64 0, .bool false]⟩ := by
  have hs := (indexOk_st h).st (by omega) (by omega)
  have hl : rows.length ≤ 1099511627776 := hr.1
  have hf1 : fl.length ≤ 1099511627776 := hfl.1
  obtain ⟨_, _, h3, h4, _⟩ := indexOk_parts h
  have h4' : 0 ≤ nx ∧ nx ≤ 999999999 := by simpa [inB] using h4
  rw [canPut] at hc
  cases c1 : docOk fl d with
  | false => 
    refine go14 rfl ?_; simp only [go_sem, ↓reduceIte, Nat.reduceAdd, Nat.reduceSub, Nat.reduceEqDiff, Nat.reduceLT, Nat.reduceLeDiff, Nat.reduceMul, Int.reduceNeg, Int.reduceToNat, Int.reduceEq, Int.reduceLT, Int.reduceLE, reduceCtorEq, Tryz.f14, hfl, hr, he, hn, hd, h, hs, hl, hf1, c1]
  | true =>
  by_cases c3 : (8 : Int) ≤ ((lessKey rows d.key).length : Int)
  · refine go14 rfl ?_; simp only [go_sem, ↓reduceIte, Nat.reduceAdd, Nat.reduceSub, Nat.reduceEqDiff, Nat.reduceLT, Nat.reduceLeDiff, Nat.reduceMul, Int.reduceNeg, Int.reduceToNat, Int.reduceEq, Int.reduceLT, Int.reduceLE, reduceCtorEq, Tryz.f14, hfl, hr, he, hn, hd, h, hs, hl, hf1, c1, c3]
  · have c2 : 999999999 ≤ nx := by
      rw [c1] at hc
      simp only [Bool.true_and, Bool.and_eq_false_iff, decide_eq_false_iff_not, ne_eq, Decidable.not_not] at hc
      omega
    refine go14 rfl ?_; simp only [go_sem, ↓reduceIte, Nat.reduceAdd, Nat.reduceSub, Nat.reduceEqDiff, Nat.reduceLT, Nat.reduceLeDiff, Nat.reduceMul, Int.reduceNeg, Int.reduceToNat, Int.reduceEq, Int.reduceLT, Int.reduceLE, reduceCtorEq, Tryz.f14, hfl, hr, he, hn, hd, h, hs, hl, hf1, c1, c2, c3]
theorem specPut_ok (fl : List Field) (rows : List DRow) (ents : List Entry) (nx : Int) (d : Doc) (hfl : FSm fl) (hr : RowsM rows) (he : EntSm ents) (hn : -9223372036854775807 ≤ nx ∧ nx ≤ 9223372036854775807) (hd : DSm d) (h : indexOkS fl rows ents nx = true) (hc : canPut fl rows nx d = true) : R S0 14 [.agg [.sl (fl.map Field.pv), .sl (rows.map DRow.pvF), .sl (ents.map Entry.pvF), .int .i64 nx], .agg [.str d.key, .sl (d.cells.map Cell.pv)]] = some ⟨[none, none], .tup [.agg [.sl (fl.map Field.pv), .sl ((putRows rows nx d).map DRow.pvF), .sl ((madeE fl (putRows rows nx d)).map Entry.pvF), .int .i64 (nx + 1)], .int .i64 nx, .bool true]⟩ := by
  have hs : RowsSt (lessKey rows d.key ++ [DRow.mk nx (Doc.mk d.key d.cells)]) := (indexOk_st (putOk h hc)).st (by omega) (by omega)
  have hl : rows.length ≤ 1099511627776 := hr.1
  have hf1 : fl.length ≤ 1099511627776 := hfl.1
  obtain ⟨_, _, h3, h4, _⟩ := indexOk_parts h
  have hlk : (lessKey rows d.key).length ≤ rows.length := List.length_filter_le _ _
  have hlb : (lessKey rows d.key).length ≤ 1099511627776 := by omega
  have h4' : 0 ≤ nx ∧ nx ≤ 999999999 := by simpa [inB] using h4
  have hw : IntKind.i64.wrap (nx + 1) = nx + 1 := wrap_in (by omega) (by omega)
  simp only [canPut, Bool.and_eq_true, decide_eq_true_eq] at hc
  obtain ⟨c1, c2, c3⟩ := hc
  have c3' : ¬ (8 : Int) ≤ ((lessKey rows d.key).length : Int) := by omega
  have c2' : ¬ 999999999 ≤ nx := by omega
  rw [putRows]
  refine go14 rfl ?_; simp only [go_sem, ↓reduceIte, Nat.reduceAdd, Nat.reduceSub, Nat.reduceEqDiff, Nat.reduceLT, Nat.reduceLeDiff, Nat.reduceMul, Int.reduceNeg, Int.reduceToNat, Int.reduceEq, Int.reduceLT, Int.reduceLE, reduceCtorEq, Tryz.f14, hfl, hr, he, hn, hd, h, hs, hl, hf1, c1, c2', c3', hw]
  exact ⟨by omega, by decide +kernel⟩
end Go.Proofs.YtdebinbhbdlbaaaGreatDoor.PVE
