/- The index: the program's IndexDrop; the law of an index without documents. -/
import Derived.Test.YtmanllfmgghadaaGreatDoorTE
set_option linter.unusedVariables false
set_option linter.unusedSimpArgs false
set_option maxRecDepth 100000
namespace Go.Proofs.YtmanllfmgghadaaGreatDoor.PVE
open PV Query
theorem keyIx_at {rows : List DRow} {i : Nat} (hi : i < rows.length) : keyIx rows rows[i].doc.key = i ↔ ∀ j (h : j < i), rows[j].doc.key ≠ rows[i].doc.key := by
  have ha : (rows.any fun r => decide (r.doc.key = rows[i].doc.key)) = true := by
    rw [List.any_eq_true]; exact ⟨rows[i], List.getElem_mem hi, by simp⟩
  rw [keyIx, if_pos ha, Int.ofNat_inj, List.findIdx_eq hi]
  constructor
  · rintro ⟨_, h⟩ j hj e
    have := h j hj
    simp [e] at this
  · intro h
    exact ⟨by simp, fun j hj => by simp [h j hj]⟩
theorem rowsOk_iff {fl : List Field} {rows : List DRow} {nx : Int} : rowsOkTo fl rows nx rows.length = true ↔ (∀ r ∈ rows, docOk fl r.doc = true ∧ inB r.id 0 (nx - 1) = true) ∧ rows.Pairwise (fun a b => a.doc.key ≠ b.doc.key) ∧ rows.Pairwise (fun a b => a.id < b.id) := by
  rw [rowsOkTo_all]
  have hg : ∀ i (h : i < rows.length), rows.getD i default = rows[i] := fun i h => by simp [List.getD_eq_getElem?_getD, List.getElem?_eq_getElem h]
  constructor
  · intro h
    have h' : ∀ i (hi : i < rows.length), docOk fl rows[i].doc = true ∧ inB rows[i].id 0 (nx - 1) = true ∧ keyIx rows rows[i].doc.key = i ∧ (i = 0 ∨ rows[i - 1].id < rows[i].id) := by
      intro i hi
      have := h i hi
      rw [rowOkS, hg i hi, hg (i - 1) (by omega)] at this
      simp only [Bool.and_eq_true, Bool.or_eq_true, decide_eq_true_eq] at this
      exact ⟨this.1.1.1, this.1.2, this.1.1.2, this.2⟩
    refine ⟨fun r hr => ?_, ?_, ?_⟩
    · obtain ⟨i, hi, rfl⟩ := List.getElem_of_mem hr
      exact ⟨(h' i hi).1, (h' i hi).2.1⟩
    · rw [List.pairwise_iff_getElem]
      intro i j hi hj hij
      exact (keyIx_at hj).1 (h' j hj).2.2.1 i hij
    · rw [List.pairwise_iff_getElem]
      intro i j hi hj hij
      induction j with
      | zero => omega
      | succ j ih =>
        have h1 := (h' (j + 1) hj).2.2.2
        have h2 : rows[j].id < rows[j + 1].id := by
          rcases h1 with h1 | h1
          · omega
          · exact h1
        by_cases e : i = j
        · subst e; exact h2
        · exact Int.lt_trans (ih (by omega) (by omega)) h2
  · rintro ⟨h1, h2, h3⟩ i hi
    rw [List.pairwise_iff_getElem] at h2 h3
    rw [rowOkS, hg i hi, hg (i - 1) (by omega)]
    simp only [Bool.and_eq_true, Bool.or_eq_true, decide_eq_true_eq]
    obtain ⟨d1, d2⟩ := h1 rows[i] (List.getElem_mem hi)
    refine ⟨⟨⟨d1, (keyIx_at hi).2 fun j hj => h2 j i (by omega) hi hj⟩, d2⟩, ?_⟩
    by_cases e : i = 0
    · exact .inl e
    · exact .inr (h3 (i - 1) i (by omega) hi (by omega))
theorem indexOk_parts {fl : List Field} {rows : List DRow} {ents : List Entry} {nx : Int} (h : indexOkS fl rows ents nx = true) : rowsOkTo fl rows nx rows.length = true ∧ fieldsOk fl = true ∧ rows.length ≤ 8 ∧ inB nx 0 999999999 = true ∧ madeE fl rows = ents := by
  simp only [indexOkS, Bool.and_eq_true, decide_eq_true_eq] at h
  exact ⟨h.1, h.2.1.1.1, h.2.1.1.2, h.2.1.2, h.2.2⟩
theorem keyIx_neg {rows : List DRow} {k : Str} : keyIx rows k < 0 ↔ (rows.any fun r => decide (r.doc.key = k)) = false := by
  rw [keyIx]
  split <;> rename_i h
  · simp only [h, reduceCtorEq, iff_false]; omega
  · simp only [Bool.not_eq_true] at h; simp [h]
end Go.Proofs.YtmanllfmgghadaaGreatDoor.PVE
namespace Go.Proofs.YtmanllfmgghadaaGreatDoor.PVE
open PV Query
@[go_sem] theorem indexI_R (l : List Int) (s : Int) (hl : l.length ≤ 1099511627776) : R S0 126 [.sl (l.map (PV.int .i64)), .int .i64 s] = some ⟨[none, none], .int .i64 (if l.contains s = true then (l.idxOf s : Int) else -1)⟩ := by
  refine go126 rfl ?_; simp only [go_sem, ↓reduceIte, Nat.reduceAdd, Nat.reduceSub, Nat.reduceEqDiff, Nat.reduceLT, Nat.reduceLeDiff, Nat.reduceMul, Int.reduceNeg, Int.reduceToNat, Int.reduceEq, Int.reduceLT, Int.reduceLE, reduceCtorEq, Tryz.f126]
  refine ends_for l.length (by omega) (fun i _ => mkSt [(0, .sl (l.map (PV.int .i64))), (1, .int .i64 s), (7, .int .i64 l.length), (8, .int .i64 i)] []) (fun i _ => s ∉ l.take i) 0 () (by omega) (by simp) ?_ ?_
  · intro i _ hi hI hw ih
    obtain ⟨x, hx, hg, hd⟩ := drop_get hi default
    have hlx : l = l.take i ++ x :: l.drop (i + 1) := by rw [← hd, List.take_append_drop]
    simp only [go_sem, ↓reduceIte, Nat.reduceAdd, Nat.reduceSub, Nat.reduceEqDiff, Nat.reduceLT, Nat.reduceLeDiff, Nat.reduceMul, Int.reduceNeg, Int.reduceToNat, Int.reduceEq, Int.reduceLT, Int.reduceLE, reduceCtorEq, hi, hw, hg]
    refine ⟨fun h => ?_, fun h => ih () ?_⟩
    · subst h
      have h1 : l.contains s = true := by rw [hlx]; simp
      have h2 : l.idxOf s = i := by
        rw [hlx, List.idxOf_append, if_neg hI]
        simp [Nat.min_eq_left (Nat.le_of_lt hi)]
      rw [if_pos h1, h2]
    · rw [List.take_add_one, hx]
      simp [hI, h]
  · intro _ hI
    simp only [go_sem, ↓reduceIte, Nat.reduceAdd, Nat.reduceSub, Nat.reduceEqDiff, Nat.reduceLT, Nat.reduceLeDiff, Nat.reduceMul, Int.reduceNeg, Int.reduceToNat, Int.reduceEq, Int.reduceLT, Int.reduceLE, reduceCtorEq]
    simp at hI
    simp [hI]
@[go_sem] theorem containsI_R (l : List Int) (s : Int) (hl : l.length ≤ 1099511627776) : R S0 59 [.sl (l.map (PV.int .i64)), .int .i64 s] = some ⟨[none, none], .bool (l.contains s)⟩ := by
  refine go59 rfl ?_; simp only [go_sem, ↓reduceIte, Nat.reduceAdd, Nat.reduceSub, Nat.reduceEqDiff, Nat.reduceLT, Nat.reduceLeDiff, Nat.reduceMul, Int.reduceNeg, Int.reduceToNat, Int.reduceEq, Int.reduceLT, Int.reduceLE, reduceCtorEq, Tryz.f59, hl]
  cases h : l.contains s <;> simp
@[go_sem] theorem l3Has_R (l : List Int) (s : Int) (hl : l.length ≤ 1099511627776) : R S0 54 [.sl (l.map (PV.int .i64)), .int .i64 s] = some ⟨[none, none], .bool (l.contains s)⟩ := by
  refine go54 rfl ?_; simp only [go_sem, ↓reduceIte, Nat.reduceAdd, Nat.reduceSub, Nat.reduceEqDiff, Nat.reduceLT, Nat.reduceLeDiff, Nat.reduceMul, Int.reduceNeg, Int.reduceToNat, Int.reduceEq, Int.reduceLT, Int.reduceLE, reduceCtorEq, Tryz.f54]
  refine ends_for l.length (by omega) (fun i _ => mkSt [(0, .sl (l.map (PV.int .i64))), (1, .int .i64 s), (5, .int .i64 i)] []) (fun i _ => s ∉ l.take i) 0 () (by omega) (by simp) ?_ ?_
  · intro i _ hi hI hw ih
    obtain ⟨x, hx, hg, hd⟩ := drop_get hi default
    have hlx : l = l.take i ++ x :: l.drop (i + 1) := by rw [← hd, List.take_append_drop]
    by_cases h : x = s
    · have h1 : l.contains s = true := by rw [hlx, h]; simp
      simp only [go_sem, ↓reduceIte, Nat.reduceAdd, Nat.reduceSub, Nat.reduceEqDiff, Nat.reduceLT, Nat.reduceLeDiff, Nat.reduceMul, Int.reduceNeg, Int.reduceToNat, Int.reduceEq, Int.reduceLT, Int.reduceLE, reduceCtorEq, hi, hw, hg, h, h1]
    · have ih' := ih () (by rw [List.take_add_one, hx]; simp [hI, Ne.symm h])
      simp only [go_sem, ↓reduceIte, Nat.reduceAdd, Nat.reduceSub, Nat.reduceEqDiff, Nat.reduceLT, Nat.reduceLeDiff, Nat.reduceMul, Int.reduceNeg, Int.reduceToNat, Int.reduceEq, Int.reduceLT, Int.reduceLE, reduceCtorEq, hi, hw, hg, h]
      exact ih'
  · intro _ hI
    have h1 : l.contains s = false := by simp at hI; simp [hI]
    simp only [go_sem, ↓reduceIte, Nat.reduceAdd, Nat.reduceSub, Nat.reduceEqDiff, Nat.reduceLT, Nat.reduceLeDiff, Nat.reduceMul, Int.reduceNeg, Int.reduceToNat, Int.reduceEq, Int.reduceLT, Int.reduceLE, reduceCtorEq, h1]
def keysS (fl : List Field) (rows : List DRow) (ents : List Entry) (nx : Int) (ids : List Int) : List Str := if indexOkS fl rows ents nx = true then (rows.filter fun r => ids.contains r.id).map (·.doc.key) else []
@[go_sem] theorem implKeys_R (fl : List Field) (rows : List DRow) (ents : List Entry) (nx : Int) (ids : List Int) (hfl : FSm fl) (hr : RowsM rows) (he : EntSm ents) (hn : -9223372036854775808 ≤ nx ∧ nx ≤ 9223372036854775807) (hi : ids.length ≤ 1099511627776) : R S0 14 [.agg [.sl (fl.map Field.pv), .sl (rows.map DRow.pvF), .sl (ents.map Entry.pvF), .int .i64 nx], .sl (ids.map (PV.int .i64))] = some ⟨[none, none], .slo 1 ((keysS fl rows ents nx ids).map .str)⟩ := by
  cases h : indexOkS fl rows ents nx with
  | false => 
    rw [keysS, h, if_neg (by simp)]
    refine go14 rfl ?_; simp only [go_sem, ↓reduceIte, Nat.reduceAdd, Nat.reduceSub, Nat.reduceEqDiff, Nat.reduceLT, Nat.reduceLeDiff, Nat.reduceMul, Int.reduceNeg, Int.reduceToNat, Int.reduceEq, Int.reduceLT, Int.reduceLE, reduceCtorEq, Tryz.f14, hfl, hr, he, hn, h]
  | true =>
    rw [keysS, h, if_pos rfl]
    have hl : rows.length ≤ 1099511627776 := hr.1
    refine go14 rfl ?_; simp only [go_sem, ↓reduceIte, Nat.reduceAdd, Nat.reduceSub, Nat.reduceEqDiff, Nat.reduceLT, Nat.reduceLeDiff, Nat.reduceMul, Int.reduceNeg, Int.reduceToNat, Int.reduceEq, Int.reduceLT, Int.reduceLE, reduceCtorEq, Tryz.f14, hfl, hr, he, hn, h]
    refine ends_for rows.length (by omega) (fun i _ => mkSt [(1, .sl (ids.map (PV.int .i64))), (5, .own 0), (14, .sl (rows.map DRow.pvF)), (15, .int .i64 rows.length), (16, .int .i64 i)] [.slo 1 ((((rows.take i).filter fun r => ids.contains r.id).map (·.doc.key)).map .str)]) (fun _ _ => True) 0 () (by omega) trivial ?_ ?_
    · rintro i _ hj _ hw ih
      obtain ⟨x, hx, hg, hd⟩ := drop_get hj default
      have hle : (((rows.take i).filter fun r => ids.contains r.id).map (·.doc.key)).length ≤ 1099511627776 := by
        have := List.length_filter_le (fun r : DRow => ids.contains r.id) (rows.take i)
        simp only [List.length_map, List.length_take] at this ⊢; omega
      have ih' := ih () trivial
      rw [List.take_add_one, hx] at ih'
      cases c : ids.contains x.id with
      | false =>
        rw [show ((rows.take i ++ (some x).toList).filter fun r => ids.contains r.id) = (rows.take i).filter fun r => ids.contains r.id by rw [List.filter_append]; simp only [Option.toList, List.filter_cons, c, List.filter_nil]; simp] at ih'
        simp only [go_sem, ↓reduceIte, Nat.reduceAdd, Nat.reduceSub, Nat.reduceEqDiff, Nat.reduceLT, Nat.reduceLeDiff, Nat.reduceMul, Int.reduceNeg, Int.reduceToNat, Int.reduceEq, Int.reduceLT, Int.reduceLE, reduceCtorEq, hj, hw, hg, c, hi]
        exact ih'
      | true =>
        rw [show ((rows.take i ++ (some x).toList).filter fun r => ids.contains r.id) = ((rows.take i).filter fun r => ids.contains r.id) ++ [x] by rw [List.filter_append]; simp only [Option.toList, List.filter_cons, c, List.filter_nil]; rfl, List.map_append] at ih'
        simp only [go_sem, ↓reduceIte, Nat.reduceAdd, Nat.reduceSub, Nat.reduceEqDiff, Nat.reduceLT, Nat.reduceLeDiff, Nat.reduceMul, Int.reduceNeg, Int.reduceToNat, Int.reduceEq, Int.reduceLT, Int.reduceLE, reduceCtorEq, hj, hw, hg, c, hi]
        rw [List.length_map] at hle
        exact ⟨by omega, ih'⟩
    · rintro _ _
      rw [List.take_length]
      simp only [go_sem, ↓reduceIte, Nat.reduceAdd, Nat.reduceSub, Nat.reduceEqDiff, Nat.reduceLT, Nat.reduceLeDiff, Nat.reduceMul, Int.reduceNeg, Int.reduceToNat, Int.reduceEq, Int.reduceLT, Int.reduceLE, reduceCtorEq]
@[go_sem] theorem specKeys_R (fl : List Field) (rows : List DRow) (ents : List Entry) (nx : Int) (ids : List Int) (hfl : FSm fl) (hr : RowsM rows) (he : EntSm ents) (hn : -9223372036854775808 ≤ nx ∧ nx ≤ 9223372036854775807) (hi : ids.length ≤ 1099511627776) : R S0 11 [.agg [.sl (fl.map Field.pv), .sl (rows.map DRow.pvF), .sl (ents.map Entry.pvF), .int .i64 nx], .sl (ids.map (PV.int .i64))] = some ⟨[none, none], .slo 1 ((keysS fl rows ents nx ids).map .str)⟩ := by
  cases h : indexOkS fl rows ents nx with
  | false => 
    rw [keysS, h, if_neg (by simp)]
    refine go11 rfl ?_; simp only [go_sem, ↓reduceIte, Nat.reduceAdd, Nat.reduceSub, Nat.reduceEqDiff, Nat.reduceLT, Nat.reduceLeDiff, Nat.reduceMul, Int.reduceNeg, Int.reduceToNat, Int.reduceEq, Int.reduceLT, Int.reduceLE, reduceCtorEq, Tryz.f11, hfl, hr, he, hn, h]
  | true =>
    rw [keysS, h, if_pos rfl]
    have hl : rows.length ≤ 1099511627776 := hr.1
    refine go11 rfl ?_; simp only [go_sem, ↓reduceIte, Nat.reduceAdd, Nat.reduceSub, Nat.reduceEqDiff, Nat.reduceLT, Nat.reduceLeDiff, Nat.reduceMul, Int.reduceNeg, Int.reduceToNat, Int.reduceEq, Int.reduceLT, Int.reduceLE, reduceCtorEq, Tryz.f11, hfl, hr, he, hn, h]
    refine ends_for rows.length (by omega) (fun i _ => mkSt [(1, .sl (ids.map (PV.int .i64))), (2, .addr 0 0 0), (5, .own 1), (6, .int .i64 i)] [.pto [.sl (fl.map Field.pv), .sl (rows.map DRow.pvF), .sl (ents.map Entry.pvF), .int .i64 nx], .slo 1 ((((rows.take i).filter fun r => ids.contains r.id).map (·.doc.key)).map .str)]) (fun _ _ => True) 0 () (by omega) trivial ?_ ?_
    · rintro i _ hj _ hw ih
      obtain ⟨x, hx, hg, hd⟩ := drop_get hj default
      have hle : (((rows.take i).filter fun r => ids.contains r.id).map (·.doc.key)).length ≤ 1099511627776 := by
        have := List.length_filter_le (fun r : DRow => ids.contains r.id) (rows.take i)
        simp only [List.length_map, List.length_take] at this ⊢; omega
      have ih' := ih () trivial
      rw [List.take_add_one, hx] at ih'
      cases c : ids.contains x.id with
      | false =>
        rw [show ((rows.take i ++ (some x).toList).filter fun r => ids.contains r.id) = (rows.take i).filter fun r => ids.contains r.id by rw [List.filter_append]; simp only [Option.toList, List.filter_cons, c, List.filter_nil]; simp] at ih'
        simp only [go_sem, ↓reduceIte, Nat.reduceAdd, Nat.reduceSub, Nat.reduceEqDiff, Nat.reduceLT, Nat.reduceLeDiff, Nat.reduceMul, Int.reduceNeg, Int.reduceToNat, Int.reduceEq, Int.reduceLT, Int.reduceLE, reduceCtorEq, hj, hw, hg, c, hi]
        exact ih'
      | true =>
        rw [show ((rows.take i ++ (some x).toList).filter fun r => ids.contains r.id) = ((rows.take i).filter fun r => ids.contains r.id) ++ [x] by rw [List.filter_append]; simp only [Option.toList, List.filter_cons, c, List.filter_nil]; rfl, List.map_append] at ih'
        simp only [go_sem, ↓reduceIte, Nat.reduceAdd, Nat.reduceSub, Nat.reduceEqDiff, Nat.reduceLT, Nat.reduceLeDiff, Nat.reduceMul, Int.reduceNeg, Int.reduceToNat, Int.reduceEq, Int.reduceLT, Int.reduceLE, reduceCtorEq, hj, hw, hg, c, hi]
        rw [List.length_map] at hle
        exact ⟨by omega, ih'⟩
    · rintro _ _
      rw [List.take_length]
      simp only [go_sem, ↓reduceIte, Nat.reduceAdd, Nat.reduceSub, Nat.reduceEqDiff, Nat.reduceLT, Nat.reduceLeDiff, Nat.reduceMul, Int.reduceNeg, Int.reduceToNat, Int.reduceEq, Int.reduceLT, Int.reduceLE, reduceCtorEq]
end Go.Proofs.YtmanllfmgghadaaGreatDoor.PVE
