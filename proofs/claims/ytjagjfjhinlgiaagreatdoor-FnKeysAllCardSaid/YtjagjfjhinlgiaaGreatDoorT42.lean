/- The index: putting in, taking out, looking up; both sides. -/
import Derived.Test.YtjagjfjhinlgiaaGreatDoorT41
set_option linter.unusedVariables false
set_option linter.unusedSimpArgs false
set_option maxRecDepth 100000
namespace Go.Proofs.YtjagjfjhinlgiaaGreatDoor.PVE
open PV Query
/-! ### Plain laws of rows -/
theorem less_none {rows : List DRow} {k : Str} (h : keyIx rows k < 0) : lessKey rows k = rows := by
  rw [keyIx_neg] at h
  rw [lessKey, List.filter_eq_self]
  intro a ha
  rw [List.any_eq_false] at h
  have := h a ha
  simpa using this
theorem less_lt {rows : List DRow} {k : Str} (h : ¬ keyIx rows k < 0) : (lessKey rows k).length < rows.length := by
  rw [keyIx_neg] at h
  simp only [Bool.not_eq_false, List.any_eq_true, decide_eq_true_eq] at h
  obtain ⟨r, hr, he⟩ := h
  rw [lessKey]
  refine List.length_filter_lt_length_iff_exists.2 ⟨r, hr, by simp [he]⟩
theorem less_no (rows : List DRow) (k : Str) : keyIx (lessKey rows k) k < 0 := by
  rw [keyIx_neg, List.any_eq_false]
  intro a ha
  have := (List.mem_filter.1 ha).2
  simpa using this
theorem key_at {rows : List DRow} (hp : rows.Pairwise (fun a b => a.doc.key ≠ b.doc.key)) {r : DRow} (hr : r ∈ rows) : ∃ i : Nat, i < rows.length ∧ keyIx rows r.doc.key = i ∧ rows[i]? = some r := by
  obtain ⟨i, hi, rfl⟩ := List.getElem_of_mem hr
  refine ⟨i, hi, (keyIx_at hi).2 fun j hj => ?_, List.getElem?_eq_getElem hi⟩
  exact (List.pairwise_iff_getElem.1 hp) j i (by omega) hi hj
def putRows (rows : List DRow) (nx : Int) (d : Doc) : List DRow := lessKey rows d.key ++ [DRow.mk nx (Doc.mk d.key d.cells)]
def canPut (fl : List Field) (rows : List DRow) (nx : Int) (d : Doc) : Bool := docOk fl d && (decide (nx ≠ 999999999) && decide ((lessKey rows d.key).length ≠ 8))
theorem doc_eta (d : Doc) : Doc.mk d.key d.cells = d := by cases d; rfl
theorem putOk {fl : List Field} {rows : List DRow} {ents : List Entry} {nx : Int} (h : indexOkS fl rows ents nx = true) {d : Doc} (hd : canPut fl rows nx d = true) : indexOkS fl (putRows rows nx d) (madeE fl (putRows rows nx d)) (nx + 1) = true := by
  obtain ⟨h1, h2, h3, h4, _⟩ := indexOk_parts h
  obtain ⟨a1, a2, a3⟩ := rowsOk_iff.1 h1
  simp only [canPut, Bool.and_eq_true, decide_eq_true_eq] at hd
  obtain ⟨d1, d2, d3⟩ := hd
  have hl : (lessKey rows d.key).length ≤ rows.length := List.length_filter_le _ _
  have h4' : 0 ≤ nx ∧ nx ≤ 999999999 := by simpa [inB] using h4
  have h5 : rowsOkTo fl (putRows rows nx d) (nx + 1) (putRows rows nx d).length = true := by
    refine rowsOk_iff.2 ⟨fun r hr => ?_, ?_, ?_⟩
    · rcases List.mem_append.1 hr with hr | hr
      · obtain ⟨b1, b2⟩ := a1 r (List.mem_filter.1 hr).1
        refine ⟨b1, ?_⟩
        simp only [inB, Bool.and_eq_true, decide_eq_true_eq] at b2 ⊢
        omega
      · simp only [List.mem_singleton] at hr
        subst hr
        refine ⟨by rw [doc_eta]; exact d1, ?_⟩
        simp only [inB, Bool.and_eq_true, decide_eq_true_eq]
        omega
    · refine List.pairwise_append.2 ⟨a2.sublist List.filter_sublist, List.pairwise_singleton _ _, fun a ha b hb => ?_⟩
      simp only [List.mem_singleton] at hb
      subst hb
      have := (List.mem_filter.1 ha).2
      simpa using this
    · refine List.pairwise_append.2 ⟨a3.sublist List.filter_sublist, List.pairwise_singleton _ _, fun a ha b hb => ?_⟩
      simp only [List.mem_singleton] at hb
      subst hb
      obtain ⟨b1, b2⟩ := a1 a (List.mem_filter.1 ha).1
      simp only [inB, Bool.and_eq_true, decide_eq_true_eq] at b2
      show a.id < nx
      omega
  have h6 : (putRows rows nx d).length ≤ 8 := by rw [putRows, List.length_append, List.length_singleton]; omega
  simp only [indexOkS, h5, h2, h6, inB, Bool.and_eq_true, decide_eq_true_eq, and_true, true_and]
  omega
/-! ### The program's -/
theorem implDoc_bad (fl : List Field) (rows : List DRow) (ents : List Entry) (nx : Int) (k : Str) (hfl : FSm fl) (hr : RowsM rows) (he : EntSm ents) (hn : -9223372036854775807 ≤ nx ∧ nx ≤ 9223372036854775807) (h : indexOkS fl rows ents nx = false) : R S0 32 [.agg [.sl (fl.map Field.pv), .sl (rows.map DRow.pvF), .sl (ents.map Entry.pvF), .int .i64 nx], .str k] = some ⟨[none, none], .tup [.agg [.str [], .slo 2 []], .bool false]⟩ := by
  have hl : rows.length ≤ 1099511627776 := hr.1
  refine go32 rfl ?_; simp only [go_sem, ↓reduceIte, Nat.reduceAdd, Nat.reduceSub, Nat.reduceEqDiff, Nat.reduceLT, Nat.reduceLeDiff, Nat.reduceMul, Int.reduceNeg, Int.reduceToNat, Int.reduceEq, Int.reduceLT, Int.reduceLE, reduceCtorEq, Tryz.f32, hfl, hr, he, hn, h, hl]
theorem implDoc_none (fl : List Field) (rows : List DRow) (ents : List Entry) (nx : Int) (k : Str) (hfl : FSm fl) (hr : RowsM rows) (he : EntSm ents) (hn : -9223372036854775807 ≤ nx ∧ nx ≤ 9223372036854775807) (h : indexOkS fl rows ents nx = true) (hk : keyIx rows k < 0) : R S0 32 [.agg [.sl (fl.map Field.pv), .sl (rows.map DRow.pvF), .sl (ents.map Entry.pvF), .int .i64 nx], .str k] = some ⟨[none, none], .tup [.agg [.str [], .slo 2 []], .bool false]⟩ := by
  have hl : rows.length ≤ 1099511627776 := hr.1
  refine go32 rfl ?_; simp only [go_sem, ↓reduceIte, Nat.reduceAdd, Nat.reduceSub, Nat.reduceEqDiff, Nat.reduceLT, Nat.reduceLeDiff, Nat.reduceMul, Int.reduceNeg, Int.reduceToNat, Int.reduceEq, Int.reduceLT, Int.reduceLE, reduceCtorEq, Tryz.f32, hfl, hr, he, hn, h, hk, hl]
theorem implDoc_ok (fl : List Field) (rows : List DRow) (ents : List Entry) (nx : Int) (k : Str) (hfl : FSm fl) (hr : RowsM rows) (he : EntSm ents) (hn : -9223372036854775807 ≤ nx ∧ nx ≤ 9223372036854775807) (h : indexOkS fl rows ents nx = true) (i : Nat) (r : DRow) (hk : keyIx rows k = i) (hx : rows[i]? = some r) : R S0 32 [.agg [.sl (fl.map Field.pv), .sl (rows.map DRow.pvF), .sl (ents.map Entry.pvF), .int .i64 nx], .str k] = some ⟨[none, none], .tup [.agg [.str r.doc.key, .slo 2 (r.doc.cells.map Cell.pv)], .bool true]⟩ := by
  have hl : rows.length ≤ 1099511627776 := hr.1
  have hi : i < rows.length := by
    rcases Nat.lt_or_ge i rows.length with h | h
    · exact h
    · rw [List.getElem?_eq_none h] at hx; cases hx
  obtain ⟨x, hx2, hg, _⟩ := drop_get hi default
  rw [hx] at hx2
  obtain rfl := Option.some.inj hx2
  obtain ⟨_, hxc, _⟩ := hr.2 r (List.mem_of_getElem? hx)
  refine go32 rfl ?_; simp only [go_sem, ↓reduceIte, Nat.reduceAdd, Nat.reduceSub, Nat.reduceEqDiff, Nat.reduceLT, Nat.reduceLeDiff, Nat.reduceMul, Int.reduceNeg, Int.reduceToNat, Int.reduceEq, Int.reduceLT, Int.reduceLE, reduceCtorEq, Tryz.f32, hfl, hr, he, hn, h, hk, hl, hi, hx, hg, hxc]
  omega
/-! ### The reference's -/
end Go.Proofs.YtjagjfjhinlgiaaGreatDoor.PVE
