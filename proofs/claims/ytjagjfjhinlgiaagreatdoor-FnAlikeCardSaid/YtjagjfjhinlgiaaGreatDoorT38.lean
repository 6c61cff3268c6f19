/- The index: the program's rebuilding. -/
import Derived.Test.YtjagjfjhinlgiaaGreatDoorT37
set_option linter.unusedVariables false
set_option linter.unusedSimpArgs false
set_option maxRecDepth 100000
namespace Go.Proofs.YtjagjfjhinlgiaaGreatDoor.PVE
open PV
@[go_sem] theorem cloneDoc_R (d : Doc) (hd : d.cells.length ≤ 1099511627776) : R S0 73 [.agg [.str d.key, .sl (d.cells.map Cell.pv)]] = some ⟨[none], .agg [.str d.key, .slo 2 (d.cells.map Cell.pv)]⟩ := by
  refine go73 rfl ?_; simp only [go_sem, ↓reduceIte, Nat.reduceAdd, Nat.reduceSub, Nat.reduceEqDiff, Nat.reduceLT, Nat.reduceLeDiff, Nat.reduceMul, Int.reduceNeg, Int.reduceToNat, Int.reduceEq, Int.reduceLT, Int.reduceLE, reduceCtorEq, Tryz.f73]
  exact ⟨by omega, by decide +kernel⟩
@[go_sem] theorem less_R (fl : List Field) (rows : List DRow) (ents : List Entry) (nx : Int) (k : Str) (hl : rows.length ≤ 1099511627776) : R S0 57 [.agg [.sl (fl.map Field.pv), .sl (rows.map DRow.pvF), .sl (ents.map Entry.pvF), .int .i64 nx], .str k] = some ⟨[none, none], .slo 3 ((lessKey rows k).map DRow.pvF)⟩ := by
  refine go57 rfl ?_; simp only [go_sem, ↓reduceIte, Nat.reduceAdd, Nat.reduceSub, Nat.reduceEqDiff, Nat.reduceLT, Nat.reduceLeDiff, Nat.reduceMul, Int.reduceNeg, Int.reduceToNat, Int.reduceEq, Int.reduceLT, Int.reduceLE, reduceCtorEq, Tryz.f57]
  refine ends_for rows.length (by omega) (fun i _ => mkSt [(1, .str k), (5, .own 0), (10, .sl (rows.map DRow.pvF)), (11, .int .i64 rows.length), (12, .int .i64 i)] [.slo 3 ((lessKey (rows.take i) k).map DRow.pvF)]) (fun _ _ => True) 0 () (by omega) trivial ?_ ?_
  · rintro i _ hi _ hw ih
    obtain ⟨x, hx, hg, hd⟩ := drop_get hi default
    have hle : (lessKey (rows.take i) k).length ≤ 1099511627776 := by
      have := List.length_filter_le (fun r : DRow => !decide (r.doc.key = k)) (rows.take i)
      rw [lessKey]; simp only [List.length_take] at this; omega
    have ih' := ih () trivial
    by_cases h : x.doc.key = k
    · have e : lessKey (rows.take (i + 1)) k = lessKey (rows.take i) k := by rw [lessKey, List.take_add_one, hx, List.filter_append]; simp [h, lessKey]
      rw [e] at ih'
      simp only [go_sem, ↓reduceIte, Nat.reduceAdd, Nat.reduceSub, Nat.reduceEqDiff, Nat.reduceLT, Nat.reduceLeDiff, Nat.reduceMul, Int.reduceNeg, Int.reduceToNat, Int.reduceEq, Int.reduceLT, Int.reduceLE, reduceCtorEq, hi, hw, hg, hx, eq_true h]
      exact ih'
    · have e : lessKey (rows.take (i + 1)) k = lessKey (rows.take i) k ++ [DRow.mk x.id (Doc.mk x.doc.key x.doc.cells)] := by rw [lessKey, List.take_add_one, hx, List.filter_append]; simp [h, lessKey]
      rw [e] at ih'
      simp only [go_sem, ↓reduceIte, Nat.reduceAdd, Nat.reduceSub, Nat.reduceEqDiff, Nat.reduceLT, Nat.reduceLeDiff, Nat.reduceMul, Int.reduceNeg, Int.reduceToNat, Int.reduceEq, Int.reduceLT, Int.reduceLE, reduceCtorEq, hi, hw, hg, hx, h]
      exact ⟨by omega, ih'⟩
  · rintro _ _
    rw [List.take_length]
    simp only [go_sem, ↓reduceIte, Nat.reduceAdd, Nat.reduceSub, Nat.reduceEqDiff, Nat.reduceLT, Nat.reduceLeDiff, Nat.reduceMul, Int.reduceNeg, Int.reduceToNat, Int.reduceEq, Int.reduceLT, Int.reduceLE, reduceCtorEq]
@[go_sem] theorem rebuilt_R (fl : List Field) (rows0 rows : List DRow) (ents : List Entry) (nx0 nx : Int) (hfl : fl.length ≤ 1099511627776) (hr : RowsSt rows) : R S0 56 [.agg [.sl (fl.map Field.pv), .sl (rows0.map DRow.pvF), .sl (ents.map Entry.pvF), .int .i64 nx0], .sl (rows.map DRow.pvF), .int .i64 nx] = some ⟨[none, none, none], .agg [.slo 3 (fl.map Field.pv), .slo 3 (rows.map DRow.pv), .slo 3 ((madeE fl rows).map Entry.pv), .int .i64 nx]⟩ := by
  obtain ⟨hl, hrs⟩ := id hr
  refine go56 rfl ?_; simp only [go_sem, ↓reduceIte, Nat.reduceAdd, Nat.reduceSub, Nat.reduceEqDiff, Nat.reduceLT, Nat.reduceLeDiff, Nat.reduceMul, Int.reduceNeg, Int.reduceToNat, Int.reduceEq, Int.reduceLT, Int.reduceLE, reduceCtorEq, Tryz.f56, hfl, hr]
  refine ⟨by omega, by decide +kernel, ?_⟩
  refine ends_for rows.length (by omega) (fun i _ => mkSt [(6, .addr 0 0 0), (7, .addr 1 0 0), (21, .sl (rows.map DRow.pvF)), (22, .int .i64 rows.length), (23, .int .i64 i)] [.pto [.slo 3 [], .slo 3 [], .slo 3 [], .int .i64 0], .pto [.slo 3 (fl.map Field.pv), .slo 3 ((rows.take i).map DRow.pv), .slo 3 ((madeE fl rows).map Entry.pv), .int .i64 nx]]) (fun _ _ => True) 0 () (by omega) trivial ?_ ?_
  · rintro i _ hi _ hw ih
    obtain ⟨x, hx, hg, hd⟩ := drop_get hi default
    obtain ⟨_, hxc, _⟩ := hrs x (List.mem_of_getElem? hx)
    have hxb : x.doc.cells.length ≤ 1099511627776 := by omega
    have ih' := ih () trivial
    have e : rows.take (i + 1) = rows.take i ++ [DRow.mk x.id (Doc.mk x.doc.key x.doc.cells)] := by rw [List.take_add_one, hx]; rfl
    have hlt : (rows.take i).length ≤ 1000 := by simp; omega
    rw [e] at ih'
    simp only [go_sem, ↓reduceIte, Nat.reduceAdd, Nat.reduceSub, Nat.reduceEqDiff, Nat.reduceLT, Nat.reduceLeDiff, Nat.reduceMul, Int.reduceNeg, Int.reduceToNat, Int.reduceEq, Int.reduceLT, Int.reduceLE, reduceCtorEq, hi, hw, hg, hx, hxb]
    exact ⟨by omega, by decide +kernel, ih'⟩
  · rintro _ _
    rw [List.take_length]
    simp only [go_sem, ↓reduceIte, Nat.reduceAdd, Nat.reduceSub, Nat.reduceEqDiff, Nat.reduceLT, Nat.reduceLeDiff, Nat.reduceMul, Int.reduceNeg, Int.reduceToNat, Int.reduceEq, Int.reduceLT, Int.reduceLE, reduceCtorEq]
@[go_sem] theorem clone_R2 (fl : List Field) (rows : List DRow) (ents : List Entry) (nx : Int) (hfl : fl.length ≤ 1099511627776) (hr : RowsSt rows) : R S0 55 [.agg [.sl (fl.map Field.pv), .sl (rows.map DRow.pvF), .sl (ents.map Entry.pvF), .int .i64 nx]] = some ⟨[none], .agg [.slo 3 (fl.map Field.pv), .slo 3 (rows.map DRow.pv), .slo 3 ((madeE fl rows).map Entry.pv), .int .i64 nx]⟩ := by
  refine go55 rfl ?_; simp only [go_sem, ↓reduceIte, Nat.reduceAdd, Nat.reduceSub, Nat.reduceEqDiff, Nat.reduceLT, Nat.reduceLeDiff, Nat.reduceMul, Int.reduceNeg, Int.reduceToNat, Int.reduceEq, Int.reduceLT, Int.reduceLE, reduceCtorEq, Tryz.f55, hfl, hr]
end Go.Proofs.YtjagjfjhinlgiaaGreatDoor.PVE
