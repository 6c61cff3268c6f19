/- Finding, both sides; the law of finding. -/
import Derived.Test.YtjagjfjhinlgiaaGreatDoorT42
set_option linter.unusedVariables false
set_option linter.unusedSimpArgs false
set_option maxRecDepth 100000
namespace Go.Proofs.YtjagjfjhinlgiaaGreatDoor.PVE
open PV Query
theorem find_R (fl : List Field) (rows : List DRow) (ents : List Entry) (nx : Int) (q : Query) (hfl : FSm fl) (hr : RowsD fl rows) (hq : q.Sm) (dp : Nat) (hok : okQ dp q = true) : R S0 75 [.agg [.sl (fl.map Field.pv), .sl (rows.map DRow.pvF), .sl (ents.map Entry.pvF), .int .i64 nx], .agg [.int .i64 q.kind, .str q.field, .str q.text, .int .i64 q.low, .int .i64 q.high, .sl (q.parts.map pv)]] = some ⟨[none, none], .slo 1 ((findS fl rows q).map (.int .i64))⟩ := by
  obtain ⟨hrl, hrd⟩ := id hr
  refine go75 rfl ?_; simp only [go_sem, ↓reduceIte, Nat.reduceAdd, Nat.reduceSub, Nat.reduceEqDiff, Nat.reduceLT, Nat.reduceLeDiff, Nat.reduceMul, Int.reduceNeg, Int.reduceToNat, Int.reduceEq, Int.reduceLT, Int.reduceLE, reduceCtorEq, Tryz.f75]
  refine ends_for rows.length (by omega) (fun i _ => mkSt [(2, .addr 0 0 0), (3, .addr 1 0 0), (5, .own 2), (10, .sl (rows.map DRow.pvF)), (11, .int .i64 rows.length), (12, .int .i64 i)] [.pto [.sl (fl.map Field.pv), .sl (rows.map DRow.pvF), .sl (ents.map Entry.pvF), .int .i64 nx], .pto [.int .i64 q.kind, .str q.field, .str q.text, .int .i64 q.low, .int .i64 q.high, .sl (q.parts.map pv)], .slo 1 ((findS fl (rows.take i) q).map (.int .i64))]) (fun _ _ => True) 0 () (by omega) trivial ?_ ?_
  · rintro i _ hi _ hw ih
    obtain ⟨r, hx, hg, _⟩ := drop_get hi default
    have hd := hrd r (List.mem_of_getElem? hx)
    have hds := (docOk_st hd).sm (by omega)
    have hm := meets_R fl r.doc hfl hds hd dp q hq hok
    have hle := findS_len fl (rows.take i) q
    have hle2 : (findS fl (rows.take i) q).length ≤ 8 := by simp only [List.length_take] at hle; omega
    have ih' := ih () trivial
    cases c : meetsM fl r.doc q with
    | true =>
      have e : findS fl (rows.take (i + 1)) q = findS fl (rows.take i) q ++ [r.id] := by rw [findS, List.take_add_one, hx, List.filter_append]; simp [c, findS]
      rw [c] at hm
      rw [e] at ih'
      simp only [go_sem, ↓reduceIte, Nat.reduceAdd, Nat.reduceSub, Nat.reduceEqDiff, Nat.reduceLT, Nat.reduceLeDiff, Nat.reduceMul, Int.reduceNeg, Int.reduceToNat, Int.reduceEq, Int.reduceLT, Int.reduceLE, reduceCtorEq, hi, hw, hg, hx, hm]
      exact ⟨by omega, ih'⟩
    | false =>
      have e : findS fl (rows.take (i + 1)) q = findS fl (rows.take i) q := by rw [findS, List.take_add_one, hx, List.filter_append]; simp [c, findS]
      rw [c] at hm
      rw [e] at ih'
      simp only [go_sem, ↓reduceIte, Nat.reduceAdd, Nat.reduceSub, Nat.reduceEqDiff, Nat.reduceLT, Nat.reduceLeDiff, Nat.reduceMul, Int.reduceNeg, Int.reduceToNat, Int.reduceEq, Int.reduceLT, Int.reduceLE, reduceCtorEq, hi, hw, hg, hx, hm]
      exact ih'
  · rintro _ _
    simp only [go_sem, ↓reduceIte, Nat.reduceAdd, Nat.reduceSub, Nat.reduceEqDiff, Nat.reduceLT, Nat.reduceLeDiff, Nat.reduceMul, Int.reduceNeg, Int.reduceToNat, Int.reduceEq, Int.reduceLT, Int.reduceLE, reduceCtorEq]
    rw [List.take_length]
@[go_sem] theorem may_R (fl : List Field) (rows : List DRow) (ents : List Entry) (nx : Int) (q : Query) (hfl : FSm fl) (hr : RowsM rows) (he : EntSm ents) (hn : -9223372036854775807 ≤ nx ∧ nx ≤ 9223372036854775807) (hq : q.Sm) : R S0 74 [.agg [.sl (fl.map Field.pv), .sl (rows.map DRow.pvF), .sl (ents.map Entry.pvF), .int .i64 nx], .agg [.int .i64 q.kind, .str q.field, .str q.text, .int .i64 q.low, .int .i64 q.high, .sl (q.parts.map pv)]] = some ⟨[none, none], .bool (askOk fl rows ents nx q)⟩ := by
  cases c1 : indexOkS fl rows ents nx with
  | false =>
    have e : askOk fl rows ents nx q = false := by rw [askOk, c1]; rfl
    refine go74 rfl ?_; simp only [go_sem, ↓reduceIte, Nat.reduceAdd, Nat.reduceSub, Nat.reduceEqDiff, Nat.reduceLT, Nat.reduceLeDiff, Nat.reduceMul, Int.reduceNeg, Int.reduceToNat, Int.reduceEq, Int.reduceLT, Int.reduceLE, reduceCtorEq, Tryz.f74, hfl, hr, he, hn, hq, c1, e]
  | true =>
    cases c2 : (fieldsOk fl && okQ 4 q && fitsI fl q) with
    | false =>
      have e : askOk fl rows ents nx q = false := by rw [askOk, c2]; simp
      refine go74 rfl ?_; simp only [go_sem, ↓reduceIte, Nat.reduceAdd, Nat.reduceSub, Nat.reduceEqDiff, Nat.reduceLT, Nat.reduceLeDiff, Nat.reduceMul, Int.reduceNeg, Int.reduceToNat, Int.reduceEq, Int.reduceLT, Int.reduceLE, reduceCtorEq, Tryz.f74, hfl, hr, he, hn, hq, c1, c2, e]
    | true =>
      have e : askOk fl rows ents nx q = true := by rw [askOk, c1, c2]; rfl
      refine go74 rfl ?_; simp only [go_sem, ↓reduceIte, Nat.reduceAdd, Nat.reduceSub, Nat.reduceEqDiff, Nat.reduceLT, Nat.reduceLeDiff, Nat.reduceMul, Int.reduceNeg, Int.reduceToNat, Int.reduceEq, Int.reduceLT, Int.reduceLE, reduceCtorEq, Tryz.f74, hfl, hr, he, hn, hq, c1, c2, e]
theorem ask_parts {fl : List Field} {rows : List DRow} {ents : List Entry} {nx : Int} {q : Query} (h : askOk fl rows ents nx q = true) : indexOkS fl rows ents nx = true ∧ (fieldsOk fl && okQ 4 q && fitsI fl q) = true ∧ okQ 4 q = true := by
  simp only [askOk, Bool.and_eq_true] at h
  exact ⟨h.1, by simp only [Bool.and_eq_true]; exact h.2, h.2.1.2⟩
def findA (fl : List Field) (rows : List DRow) (ents : List Entry) (nx : Int) (q : Query) : List Int := if askOk fl rows ents nx q = true then findS fl rows q else []
@[go_sem] theorem implFind_R (fl : List Field) (rows : List DRow) (ents : List Entry) (nx : Int) (q : Query) (hfl : FSm fl) (hr : RowsM rows) (he : EntSm ents) (hn : -9223372036854775807 ≤ nx ∧ nx ≤ 9223372036854775807) (hq : q.Sm) : R S0 34 [.agg [.sl (fl.map Field.pv), .sl (rows.map DRow.pvF), .sl (ents.map Entry.pvF), .int .i64 nx], .agg [.int .i64 q.kind, .str q.field, .str q.text, .int .i64 q.low, .int .i64 q.high, .sl (q.parts.map pv)]] = some ⟨[none, none], .slo 1 ((findA fl rows ents nx q).map (.int .i64))⟩ := by
  rw [findA]
  cases c : askOk fl rows ents nx q with
  | false =>
    rw [if_neg (by simp)]
    refine go34 rfl ?_; simp only [go_sem, ↓reduceIte, Nat.reduceAdd, Nat.reduceSub, Nat.reduceEqDiff, Nat.reduceLT, Nat.reduceLeDiff, Nat.reduceMul, Int.reduceNeg, Int.reduceToNat, Int.reduceEq, Int.reduceLT, Int.reduceLE, reduceCtorEq, Tryz.f34, hfl, hr, he, hn, hq, c]
  | true =>
    rw [if_pos rfl]
    obtain ⟨c1, c2, c3⟩ := ask_parts c
    have hf := find_R fl rows ents nx q hfl (indexOk_rows c1) hq 4 c3
    refine go34 rfl ?_; simp only [go_sem, ↓reduceIte, Nat.reduceAdd, Nat.reduceSub, Nat.reduceEqDiff, Nat.reduceLT, Nat.reduceLeDiff, Nat.reduceMul, Int.reduceNeg, Int.reduceToNat, Int.reduceEq, Int.reduceLT, Int.reduceLE, reduceCtorEq, Tryz.f34, hfl, hr, he, hn, hq, c, hf]
@[go_sem] theorem specFind_R (fl : List Field) (rows : List DRow) (ents : List Entry) (nx : Int) (q : Query) (hfl : FSm fl) (hr : RowsM rows) (he : EntSm ents) (hn : -9223372036854775807 ≤ nx ∧ nx ≤ 9223372036854775807) (hq : q.Sm) : R S0 37 [.agg [.sl (fl.map Field.pv), .sl (rows.map DRow.pvF), .sl (ents.map Entry.pvF), .int .i64 nx], .agg [.int .i64 q.kind, .str q.field, .str q.text, .int .i64 q.low, .int .i64 q.high, .sl (q.parts.map pv)]] = some ⟨[none, none], .slo 1 ((findA fl rows ents nx q).map (.int .i64))⟩ := by
  rw [findA]
  cases c1 : indexOkS fl rows ents nx with
  | false =>
    have e : askOk fl rows ents nx q = false := by rw [askOk, c1]; rfl
    rw [e, if_neg (by simp)]
    refine go37 rfl ?_; simp only [go_sem, ↓reduceIte, Nat.reduceAdd, Nat.reduceSub, Nat.reduceEqDiff, Nat.reduceLT, Nat.reduceLeDiff, Nat.reduceMul, Int.reduceNeg, Int.reduceToNat, Int.reduceEq, Int.reduceLT, Int.reduceLE, reduceCtorEq, Tryz.f37, hfl, hr, he, hn, hq, c1]
  | true =>
    cases c2 : (fieldsOk fl && okQ 4 q && fitsI fl q) with
    | false =>
      have e : askOk fl rows ents nx q = false := by rw [askOk, c2]; simp
      rw [e, if_neg (by simp)]
      refine go37 rfl ?_; simp only [go_sem, ↓reduceIte, Nat.reduceAdd, Nat.reduceSub, Nat.reduceEqDiff, Nat.reduceLT, Nat.reduceLeDiff, Nat.reduceMul, Int.reduceNeg, Int.reduceToNat, Int.reduceEq, Int.reduceLT, Int.reduceLE, reduceCtorEq, Tryz.f37, hfl, hr, he, hn, hq, c1, c2]
    | true =>
      have e : askOk fl rows ents nx q = true := by rw [askOk, c1, c2]; rfl
      rw [e, if_pos rfl]
      obtain ⟨_, _, c3⟩ := ask_parts e
      have hf := l6Find_R fl rows ents nx q hfl (indexOk_rows c1) hq 4 c3
      refine go37 rfl ?_; simp only [go_sem, ↓reduceIte, Nat.reduceAdd, Nat.reduceSub, Nat.reduceEqDiff, Nat.reduceLT, Nat.reduceLeDiff, Nat.reduceMul, Int.reduceNeg, Int.reduceToNat, Int.reduceEq, Int.reduceLT, Int.reduceLE, reduceCtorEq, Tryz.f37, hfl, hr, he, hn, hq, c1, c2, hf]
theorem findA_len {fl : List Field} {rows : List DRow} {ents : List Entry} {nx : Int} {q : Query} : (findA fl rows ents nx q).length ≤ 8 := by
  unfold findA
  split
  · rename_i h
    have := (indexOk_rows (ask_parts h).1).1
    have := findS_len fl rows q
    omega
  · simp
@[go_sem] theorem FnFind_R (b : Str) (hb : b.length ≤ 9223372036854775807) : R S0 12 [.sl (b.map bytePV)] = some ⟨[none], .bool true⟩ := by
  by_cases h : 1048576 < (b.length : Int)
  · refine go12 rfl ?_; simp only [go_sem, ↓reduceIte, Nat.reduceAdd, Nat.reduceSub, Nat.reduceEqDiff, Nat.reduceLT, Nat.reduceLeDiff, Nat.reduceMul, Int.reduceNeg, Int.reduceToNat, Int.reduceEq, Int.reduceLT, Int.reduceLE, reduceCtorEq, Tryz.f12, h]
  obtain ⟨r, hr, fl, rows, ents, nx, q, rfl, hfl, hrs, hes, hn1, hn2, hq⟩ := drawFind_ex b
  have hm := hrs.sm (by omega) (by omega)
  have hn : -9223372036854775807 ≤ nx ∧ nx ≤ 9223372036854775807 := by omega
  have hl8 : (findA fl rows ents nx q).length ≤ 1099511627776 := by have := findA_len (fl := fl) (rows := rows) (ents := ents) (nx := nx) (q := q); omega
  cases c1 : indexOkS fl rows ents nx with
  | false => refine go12 rfl ?_; simp only [go_sem, ↓reduceIte, Nat.reduceAdd, Nat.reduceSub, Nat.reduceEqDiff, Nat.reduceLT, Nat.reduceLeDiff, Nat.reduceMul, Int.reduceNeg, Int.reduceToNat, Int.reduceEq, Int.reduceLT, Int.reduceLE, reduceCtorEq, Tryz.f12, h, hr, hfl, hm, hes, hn, hq, hl8, c1]
  | true =>
    cases c2 : (fieldsOk fl && okQ 4 q && fitsI fl q) with
    | false => refine go12 rfl ?_; simp only [go_sem, ↓reduceIte, Nat.reduceAdd, Nat.reduceSub, Nat.reduceEqDiff, Nat.reduceLT, Nat.reduceLeDiff, Nat.reduceMul, Int.reduceNeg, Int.reduceToNat, Int.reduceEq, Int.reduceLT, Int.reduceLE, reduceCtorEq, Tryz.f12, h, hr, hfl, hm, hes, hn, hq, hl8, c1, c2]
    | true =>
      have e : findA fl rows ents nx q = (rows.filter fun r => meetsM fl r.doc q).map (·.id) := by rw [findA, askOk, c1, c2]; rfl
      refine go12 rfl ?_; simp only [go_sem, ↓reduceIte, Nat.reduceAdd, Nat.reduceSub, Nat.reduceEqDiff, Nat.reduceLT, Nat.reduceLeDiff, Nat.reduceMul, Int.reduceNeg, Int.reduceToNat, Int.reduceEq, Int.reduceLT, Int.reduceLE, reduceCtorEq, Tryz.f12, h, hr, hfl, hm, hes, hn, hq, hl8, c1, c2]
      obtain ⟨hrl8, hrd⟩ := indexOk_rows c1
      rw [e]
      refine ends_for rows.length (by omega) (fun i _ => mkSt [(3, .addr 0 0 0), (4, .addr 1 0 0), (5, .own 2), (6, .int .i64 (((rows.take i).filter fun r => meetsM fl r.doc q).length : Nat)), (7, .int .i64 i)] [.pto [.sl (fl.map Field.pv), .sl (rows.map DRow.pvF), .sl (ents.map Entry.pvF), .int .i64 nx], .pto [.int .i64 q.kind, .str q.field, .str q.text, .int .i64 q.low, .int .i64 q.high, .sl (q.parts.map pv)], .slo 1 (((rows.filter fun r => meetsM fl r.doc q).map (·.id)).map (.int .i64))]) (fun _ _ => True) 0 () (by omega) trivial ?_ ?_
      · rintro i _ hi - hw ih
        obtain ⟨x, hx, hg, _⟩ := drop_get hi default
        have hxm := List.mem_of_getElem? hx
        have hd := hrd x hxm
        have hds := hm.2 x hxm
        have hmd : meetsD fl x.doc q = meetsM fl x.doc q := by rw [meetsD, hd, c2]; simp
        have ih' := ih () trivial
        rw [List.take_add_one, hx] at ih'
        cases c : meetsM fl x.doc q with
        | false =>
          rw [c] at hmd
          rw [show ((rows.take i ++ (some x).toList).filter fun r => meetsM fl r.doc q) = (rows.take i).filter fun r => meetsM fl r.doc q by rw [List.filter_append]; simp only [Option.toList, List.filter_cons, c, List.filter_nil]; simp] at ih'
          simp only [go_sem, ↓reduceIte, Nat.reduceAdd, Nat.reduceSub, Nat.reduceEqDiff, Nat.reduceLT, Nat.reduceLeDiff, Nat.reduceMul, Int.reduceNeg, Int.reduceToNat, Int.reduceEq, Int.reduceLT, Int.reduceLE, reduceCtorEq, hi, hw, hg, hx, hmd, hfl, hds, hq]
          exact ih'
        | true =>
          rw [c] at hmd
          rw [show ((rows.take i ++ (some x).toList).filter fun r => meetsM fl r.doc q) = ((rows.take i).filter fun r => meetsM fl r.doc q) ++ [x] by rw [List.filter_append]; simp only [Option.toList, List.filter_cons, c, List.filter_nil]; rfl, List.length_append, List.length_singleton] at ih'
          have ha := filtM_at (p := fun r : DRow => meetsM fl r.doc q) (f := fun r => r.id) hx c
          have hlt := filtM_lt (p := fun r : DRow => meetsM fl r.doc q) (f := fun r => r.id) hx c
          have hle := List.length_filter_le (fun r : DRow => meetsM fl r.doc q) (rows.take i)
          simp only [List.length_take] at hle
          generalize ((rows.take i).filter fun r => meetsM fl r.doc q).length = n at *
          generalize ((rows.filter fun r => meetsM fl r.doc q).map fun r => r.id) = L at *
          have hn2 : IntKind.i64.wrap ((n : Int) + 1) = ((n + 1 : Nat) : Int) := by rw [wrap_in (by omega) (by omega)]; omega
          have hnl : ¬ (L.length : Int) ≤ (n : Int) := by omega
          obtain ⟨y, hy, hgy, _⟩ := drop_get hlt default
          rw [ha] at hy
          obtain rfl := Option.some.inj hy
          simp only [go_sem, ↓reduceIte, Nat.reduceAdd, Nat.reduceSub, Nat.reduceEqDiff, Nat.reduceLT, Nat.reduceLeDiff, Nat.reduceMul, Int.reduceNeg, Int.reduceToNat, Int.reduceEq, Int.reduceLT, Int.reduceLE, reduceCtorEq, hi, hw, hg, hx, hmd, hfl, hds, hq, hn2, hnl, hlt, ha, hgy]
          exact ih'
      · rintro _ -
        rw [List.take_length]
        simp only [go_sem, ↓reduceIte, Nat.reduceAdd, Nat.reduceSub, Nat.reduceEqDiff, Nat.reduceLT, Nat.reduceLeDiff, Nat.reduceMul, Int.reduceNeg, Int.reduceToNat, Int.reduceEq, Int.reduceLT, Int.reduceLE, reduceCtorEq, List.length_map]
end Go.Proofs.YtjagjfjhinlgiaaGreatDoor.PVE
