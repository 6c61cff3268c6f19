/- Sets of numbers; the laws of what finds all. -/
import Derived.Test.YtjagjfjhinlgiaaGreatDoorT45
set_option linter.unusedVariables false
set_option linter.unusedSimpArgs false
set_option maxRecDepth 100000
namespace Go.Proofs.YtjagjfjhinlgiaaGreatDoor.PVE
open PV Query
def setOkS (l : List Int) : Bool := decide (∀ n ∈ l, inB n 0 999999999 = true) && (decide (l.Pairwise (fun a b => a < b)) && decide (l.length ≤ 16))
theorem pw_snoc {l : List Int} {i : Nat} {x y : Int} (hp : (l.take (i + 1)).Pairwise (fun a b => a < b)) (hy : l[i]? = some y) (h : y < x) : ∀ a ∈ l.take (i + 1), a < x := by
  intro a ha
  have hi : i < l.length := by
    rcases Nat.lt_or_ge i l.length with h | h
    · exact h
    · rw [List.getElem?_eq_none h] at hy; cases hy
  rw [List.take_add_one, hy] at ha hp
  rcases List.mem_append.1 ha with ha | ha
  · have := (List.pairwise_append.1 hp).2.2 a ha y (by simp)
    exact Int.lt_trans this h
  · simp only [Option.toList, List.mem_singleton] at ha
    subst ha; exact h
@[go_sem] theorem implSetOk_R (l : List Int) (hl : l.length ≤ 1099511627776) : R S0 35 [.sl (l.map (.int .i64))] = some ⟨[none], .bool (setOkS l)⟩ := by
  refine go35 rfl ?_; simp only [go_sem, ↓reduceIte, Nat.reduceAdd, Nat.reduceSub, Nat.reduceEqDiff, Nat.reduceLT, Nat.reduceLeDiff, Nat.reduceMul, Int.reduceNeg, Int.reduceToNat, Int.reduceEq, Int.reduceLT, Int.reduceLE, reduceCtorEq, Tryz.f35]
  refine ends_for l.length (by omega) (fun i _ => mkSt [(0, .sl (l.map (.int .i64))), (5, .sl (l.map (.int .i64))), (6, .int .i64 l.length), (7, .int .i64 i)] []) (fun i _ => (∀ n ∈ l.take i, inB n 0 999999999 = true) ∧ (l.take i).Pairwise (fun a b => a < b)) 0 () (by omega) (by simp) ?_ ?_
  · rintro i _ hi ⟨hI1, hI2⟩ hw ih
    obtain ⟨x, hx, hg, _⟩ := drop_get hi default
    have hxm := List.mem_of_getElem? hx
    have htk : l.take (i + 1) = l.take i ++ [x] := by rw [List.take_add_one, hx]; rfl
    cases c1 : inB x 0 999999999 with
    | false =>
      have hn : setOkS l = false := by
        rw [setOkS, decide_eq_false fun h => by rw [h x hxm] at c1; cases c1]; rfl
      simp only [go_sem, ↓reduceIte, Nat.reduceAdd, Nat.reduceSub, Nat.reduceEqDiff, Nat.reduceLT, Nat.reduceLeDiff, Nat.reduceMul, Int.reduceNeg, Int.reduceToNat, Int.reduceEq, Int.reduceLT, Int.reduceLE, reduceCtorEq, hi, hw, hg, hx, c1, hn]
    | true =>
      have d1 : ∀ n ∈ l.take (i + 1), inB n 0 999999999 = true := by
        intro n h
        rw [htk] at h
        rcases List.mem_append.1 h with h | h
        · exact hI1 n h
        · simp only [List.mem_singleton] at h; subst h; exact c1
      cases i with
      | zero =>
        have ih' := ih () ⟨d1, by rw [htk]; simp⟩
        rw [show ((0 : Nat) : Int) = 0 from rfl] at *
        have hi0 : (0 : Int) < (l.length : Int) := by omega
        simp only [go_sem, ↓reduceIte, Nat.reduceAdd, Nat.reduceSub, Nat.reduceEqDiff, Nat.reduceLT, Nat.reduceLeDiff, Nat.reduceMul, Int.reduceNeg, Int.reduceToNat, Int.reduceEq, Int.reduceLT, Int.reduceLE, reduceCtorEq, hi, hi0, hw, hg, hx, c1]
        exact ih'
      | succ j =>
        have g0 : (0 : Int) < ((j + 1 : Nat) : Int) := by omega
        have hw1 : IntKind.i64.wrap (((j + 1 : Nat) : Int) - 1) = (j : Int) := by rw [wrap_in (by omega) (by omega)]; omega
        have hj : j < l.length := by omega
        obtain ⟨y, hy, hgy, _⟩ := drop_get hj default
        by_cases c2 : y < x
        · have c2' : ¬ x ≤ y := by omega
          have ih' := ih () ⟨d1, by
            rw [htk]
            exact List.pairwise_append.2 ⟨hI2, List.pairwise_singleton _ _, fun a ha b hb => by
              simp only [List.mem_singleton] at hb
              subst hb
              exact pw_snoc hI2 hy c2 a ha⟩⟩
          simp only [go_sem, ↓reduceIte, Nat.reduceAdd, Nat.reduceSub, Nat.reduceEqDiff, Nat.reduceLT, Nat.reduceLeDiff, Nat.reduceMul, Int.reduceNeg, Int.reduceToNat, Int.reduceEq, Int.reduceLT, Int.reduceLE, reduceCtorEq, hi, hw, hg, hx, c1, g0, hw1, hj, hy, hgy, c2']
          exact ih'
        · have c2' : x ≤ y := by omega
          have hn : setOkS l = false := by
            have : ¬ l.Pairwise (fun a b => a < b) := fun h => by
              have := (List.pairwise_iff_getElem.1 h) j (j + 1) hj hi (by omega)
              rw [List.getElem?_eq_getElem hj] at hy
              rw [List.getElem?_eq_getElem hi] at hx
              rw [Option.some.inj hy, Option.some.inj hx] at this
              exact c2 this
            rw [setOkS, decide_eq_false this]; simp
          simp only [go_sem, ↓reduceIte, Nat.reduceAdd, Nat.reduceSub, Nat.reduceEqDiff, Nat.reduceLT, Nat.reduceLeDiff, Nat.reduceMul, Int.reduceNeg, Int.reduceToNat, Int.reduceEq, Int.reduceLT, Int.reduceLE, reduceCtorEq, hi, hw, hg, hx, c1, g0, hw1, hj, hy, hgy, c2', hn]
  · rintro _ ⟨hI1, hI2⟩
    rw [List.take_length] at hI1 hI2
    by_cases c : l.length ≤ 16
    · have c' : (l.length : Int) ≤ 16 := by omega
      have hn : setOkS l = true := by rw [setOkS, decide_eq_true hI1, decide_eq_true hI2, decide_eq_true c]; rfl
      simp only [go_sem, ↓reduceIte, Nat.reduceAdd, Nat.reduceSub, Nat.reduceEqDiff, Nat.reduceLT, Nat.reduceLeDiff, Nat.reduceMul, Int.reduceNeg, Int.reduceToNat, Int.reduceEq, Int.reduceLT, Int.reduceLE, reduceCtorEq, c', hn]
    · have c' : ¬ (l.length : Int) ≤ 16 := by omega
      have hn : setOkS l = false := by rw [setOkS, decide_eq_false c]; simp
      simp only [go_sem, ↓reduceIte, Nat.reduceAdd, Nat.reduceSub, Nat.reduceEqDiff, Nat.reduceLT, Nat.reduceLeDiff, Nat.reduceMul, Int.reduceNeg, Int.reduceToNat, Int.reduceEq, Int.reduceLT, Int.reduceLE, reduceCtorEq, c', hn]
def allQ : Query := .mk 1 [] [] 0 0 []
def noneQ : Query := .mk 9 [] [] 0 0 [allQ]
theorem allQ_sm : allQ.Sm := .mk _ (by simp [allQ, Query.field]) (by simp [allQ, Query.text]) (by simp [allQ, Query.parts]) (by simp [allQ, Query.parts])
theorem noneQ_sm : noneQ.Sm := .mk _ (by simp [noneQ, Query.field]) (by simp [noneQ, Query.text]) (by simp [noneQ, Query.parts]) (fun p hp => by simp [noneQ, Query.parts] at hp; subst hp; exact allQ_sm)
theorem ask_all {fl : List Field} {rows : List DRow} {ents : List Entry} {nx : Int} (h : indexOkS fl rows ents nx = true) : askOk fl rows ents nx allQ = true := by
  have h2 := (indexOk_parts h).2.1
  have h3 : okQ 4 allQ = true := rfl
  have h4 : fitsI fl allQ = true := by simp [allQ, fitsI, fitsIL]
  rw [askOk, h, h2, h3, h4]; rfl
theorem ask_none {fl : List Field} {rows : List DRow} {ents : List Entry} {nx : Int} (h : indexOkS fl rows ents nx = true) : askOk fl rows ents nx noneQ = true := by
  have h2 := (indexOk_parts h).2.1
  have h3 : okQ 4 noneQ = true := rfl
  have h4 : fitsI fl noneQ = true := by simp [noneQ, allQ, fitsI, fitsIL]
  rw [askOk, h, h2, h3, h4]; rfl
theorem meets_all (fl : List Field) (d : Doc) : meetsM fl d allQ = true := by rw [allQ, meetsM]; simp [leafM, Query.kind]
theorem meets_none (fl : List Field) (d : Doc) : meetsM fl d noneQ = false := by rw [noneQ, meetsM]; simp [meetsNot, meets_all]
theorem find_all {fl : List Field} {rows : List DRow} {ents : List Entry} {nx : Int} (h : indexOkS fl rows ents nx = true) : findA fl rows ents nx allQ = rows.map (·.id) := by
  rw [findA, if_pos (ask_all h), findS]
  congr 1
  rw [List.filter_eq_self]
  exact fun r _ => meets_all fl r.doc
theorem find_none {fl : List Field} {rows : List DRow} {ents : List Entry} {nx : Int} (h : indexOkS fl rows ents nx = true) : findA fl rows ents nx noneQ = [] := by
  rw [findA, if_pos (ask_none h), findS]
  have : (rows.filter fun r => meetsM fl r.doc noneQ) = [] := by
    rw [List.filter_eq_nil_iff]
    intro r _
    simp [meets_none]
  rw [this]; rfl
theorem implFindAll_R (fl : List Field) (rows : List DRow) (ents : List Entry) (nx : Int) (hfl : FSm fl) (hr : RowsM rows) (he : EntSm ents) (hn : -9223372036854775807 ≤ nx ∧ nx ≤ 9223372036854775807) (h : indexOkS fl rows ents nx = true) : R S0 34 [.agg [.sl (fl.map Field.pv), .sl (rows.map DRow.pvF), .sl (ents.map Entry.pvF), .int .i64 nx], .agg [.int .i64 1, .str [], .str [], .int .i64 0, .int .i64 0, .sl []]] = some ⟨[none, none], .slo 1 ((rows.map (·.id)).map (.int .i64))⟩ := by
  have := implFind_R fl rows ents nx allQ hfl hr he hn allQ_sm
  rw [find_all h] at this
  exact this
theorem implFindNone_R (fl : List Field) (rows : List DRow) (ents : List Entry) (nx : Int) (hfl : FSm fl) (hr : RowsM rows) (he : EntSm ents) (hn : -9223372036854775807 ≤ nx ∧ nx ≤ 9223372036854775807) (h : indexOkS fl rows ents nx = true) : R S0 34 [.agg [.sl (fl.map Field.pv), .sl (rows.map DRow.pvF), .sl (ents.map Entry.pvF), .int .i64 nx], .agg [.int .i64 9, .str [], .str [], .int .i64 0, .int .i64 0, .sl [.agg [.int .i64 1, .str [], .str [], .int .i64 0, .int .i64 0, .sl []]]]] = some ⟨[none, none], .slo 1 []⟩ := by
  have := implFind_R fl rows ents nx noneQ hfl hr he hn noneQ_sm
  rw [find_none h] at this
  simp only [noneQ, Query.kind, Query.field, Query.text, Query.low, Query.high, Query.parts, List.map_cons, List.map_nil, pv_eq allQ] at this
  simp only [allQ, Query.kind, Query.field, Query.text, Query.low, Query.high, Query.parts, List.map_nil] at this
  exact this
theorem ids_ok {fl : List Field} {rows : List DRow} {ents : List Entry} {nx : Int} (h : indexOkS fl rows ents nx = true) : setOkS (rows.map (·.id)) = true := by
  obtain ⟨h1, _, h3, h4, _⟩ := indexOk_parts h
  obtain ⟨a1, _, a3⟩ := rowsOk_iff.1 h1
  have e1 : ∀ n ∈ rows.map (·.id), inB n 0 999999999 = true := by
    intro n hn
    obtain ⟨r, hr, rfl⟩ := List.mem_map.1 hn
    have := (a1 r hr).2
    simp only [inB, Bool.and_eq_true, decide_eq_true_eq] at this h4 ⊢
    omega
  have e2 : (rows.map (·.id)).Pairwise (fun a b => a < b) := List.pairwise_map.2 a3
  have e3 : (rows.map (·.id)).length ≤ 16 := by rw [List.length_map]; omega
  rw [setOkS, decide_eq_true e1, decide_eq_true e2, decide_eq_true e3]; rfl
@[go_sem] theorem FnFindAll_R (b : Str) (hb : b.length ≤ 9223372036854775807) : R S0 10 [.sl (b.map bytePV)] = some ⟨[none], .bool true⟩ := by
  by_cases h : 1048576 < (b.length : Int)
  · refine go10 rfl ?_; simp only [go_sem, ↓reduceIte, Nat.reduceAdd, Nat.reduceSub, Nat.reduceEqDiff, Nat.reduceLT, Nat.reduceLeDiff, Nat.reduceMul, Int.reduceNeg, Int.reduceToNat, Int.reduceEq, Int.reduceLT, Int.reduceLE, reduceCtorEq, Tryz.f10, h]
  obtain ⟨r, hr, fl, rows, ents, nx, rfl, hfl, hrs, hes, hn1, hn2⟩ := drawIndexOk_ex b
  have hm := hrs.sm (by omega) (by omega)
  have hn : -9223372036854775807 ≤ nx ∧ nx ≤ 9223372036854775807 := by omega
  cases hok : indexOkS fl rows ents nx with
  | false => refine go10 rfl ?_; simp only [go_sem, ↓reduceIte, Nat.reduceAdd, Nat.reduceSub, Nat.reduceEqDiff, Nat.reduceLT, Nat.reduceLeDiff, Nat.reduceMul, Int.reduceNeg, Int.reduceToNat, Int.reduceEq, Int.reduceLT, Int.reduceLE, reduceCtorEq, Tryz.f10, h, hr, hfl, hm, hes, hn, hok]
  | true =>
    have e1 := implFindAll_R fl rows ents nx hfl hm hes hn hok
    have e2 := implFindNone_R fl rows ents nx hfl hm hes hn hok
    refine go10 rfl ?_; simp only [go_sem, ↓reduceIte, Nat.reduceAdd, Nat.reduceSub, Nat.reduceEqDiff, Nat.reduceLT, Nat.reduceLeDiff, Nat.reduceMul, Int.reduceNeg, Int.reduceToNat, Int.reduceEq, Int.reduceLT, Int.reduceLE, reduceCtorEq, Tryz.f10, h, hr, hfl, hm, hes, hn, hok, e1, e2]
    have hst := ids_ok hok
    have hrl : rows.length ≤ 1099511627776 := hm.1
    refine ends_for rows.length (by omega) (fun i _ => mkSt [(3, .addr 0 0 0), (6, .own 1), (7, .own 2), (8, .int .i64 i)] [.pto [.sl (fl.map Field.pv), .sl (rows.map DRow.pvF), .sl (ents.map Entry.pvF), .int .i64 nx], .slo 1 ((rows.map (·.id)).map (.int .i64)), .slo 1 []]) (fun _ _ => True) 0 () (by omega) trivial ?_ ?_
    · rintro i _ hi - hw ih
      obtain ⟨x, hx, hg, _⟩ := drop_get hi default
      have ih' := ih () trivial
      have h1 : (rows.map (·.id))[i]? = some x.id := by rw [List.getElem?_map, hx]; rfl
      have h2 : (rows.map (·.id)).length = rows.length := List.length_map _
      generalize rows.map (·.id) = L at *
      have hi2 : i < L.length := by omega
      obtain ⟨y, hy, hgy, _⟩ := drop_get hi2 default
      rw [h1] at hy
      obtain rfl := Option.some.inj hy
      have hnl : ¬ (L.length : Int) ≤ (i : Int) := by omega
      simp only [go_sem, ↓reduceIte, Nat.reduceAdd, Nat.reduceSub, Nat.reduceEqDiff, Nat.reduceLT, Nat.reduceLeDiff, Nat.reduceMul, Int.reduceNeg, Int.reduceToNat, Int.reduceEq, Int.reduceLT, Int.reduceLE, reduceCtorEq, hi, hw, hg, hx, hnl, hi2, h1, hgy]
      exact ih'
    · rintro _ -
      simp only [go_sem, ↓reduceIte, Nat.reduceAdd, Nat.reduceSub, Nat.reduceEqDiff, Nat.reduceLT, Nat.reduceLeDiff, Nat.reduceMul, Int.reduceNeg, Int.reduceToNat, Int.reduceEq, Int.reduceLT, Int.reduceLE, reduceCtorEq, hst, hrl]
@[go_sem] theorem FnKeysAll_R (b : Str) (hb : b.length ≤ 9223372036854775807) : R S0 11 [.sl (b.map bytePV)] = some ⟨[none], .bool true⟩ := by
  by_cases h : 1048576 < (b.length : Int)
  · refine go11 rfl ?_; simp only [go_sem, ↓reduceIte, Nat.reduceAdd, Nat.reduceSub, Nat.reduceEqDiff, Nat.reduceLT, Nat.reduceLeDiff, Nat.reduceMul, Int.reduceNeg, Int.reduceToNat, Int.reduceEq, Int.reduceLT, Int.reduceLE, reduceCtorEq, Tryz.f11, h]
  obtain ⟨r, hr, fl, rows, ents, nx, rfl, hfl, hrs, hes, hn1, hn2⟩ := drawIndexOk_ex b
  have hm := hrs.sm (by omega) (by omega)
  have hn : -9223372036854775807 ≤ nx ∧ nx ≤ 9223372036854775807 := by omega
  cases hok : indexOkS fl rows ents nx with
  | false => refine go11 rfl ?_; simp only [go_sem, ↓reduceIte, Nat.reduceAdd, Nat.reduceSub, Nat.reduceEqDiff, Nat.reduceLT, Nat.reduceLeDiff, Nat.reduceMul, Int.reduceNeg, Int.reduceToNat, Int.reduceEq, Int.reduceLT, Int.reduceLE, reduceCtorEq, Tryz.f11, h, hr, hfl, hm, hes, hn, hok]
  | true =>
    have e1 := implFindAll_R fl rows ents nx hfl hm hes hn hok
    have hkk : keysS fl rows ents nx (rows.map (·.id)) = rows.map (·.doc.key) := by
      rw [keysS, if_pos hok]
      congr 1
      rw [List.filter_eq_self]
      intro r hr
      simp only [List.contains_eq_mem, decide_eq_true_eq]
      exact List.mem_map.2 ⟨r, hr, rfl⟩
    have hil : rows.length ≤ 1099511627776 := hm.1
    obtain ⟨hp1, hp2, hp3⟩ := rowsOk_iff.1 (indexOk_parts hok).1
    refine go11 rfl ?_; simp only [go_sem, ↓reduceIte, Nat.reduceAdd, Nat.reduceSub, Nat.reduceEqDiff, Nat.reduceLT, Nat.reduceLeDiff, Nat.reduceMul, Int.reduceNeg, Int.reduceToNat, Int.reduceEq, Int.reduceLT, Int.reduceLE, reduceCtorEq, Tryz.f11, h, hr, hfl, hm, hes, hn, hok, e1, hkk, hil]
    refine ⟨by decide +kernel, ?_⟩
    refine ends_for (rows.map (·.doc.key)).length (by rw [List.length_map]; omega) (fun i _ => mkSt [(3, .addr 0 0 0), (5, .own 1), (6, .int .i64 i)] [.pto [.sl (fl.map Field.pv), .sl (rows.map DRow.pvF), .sl (ents.map Entry.pvF), .int .i64 nx], .slo 1 ((rows.map (·.doc.key)).map .str)]) (fun _ _ => True) 0 () (by omega) trivial ?_ ?_
    · rintro i _ hi - hw ih
      have hi2 : i < rows.length := by rw [List.length_map] at hi; exact hi
      obtain ⟨x, hx, hg, _⟩ := drop_get hi2 default
      have hxm := List.mem_of_getElem? hx
      have ih' := ih () trivial
      have h1 : (rows.map (·.doc.key))[i]? = some x.doc.key := by rw [List.getElem?_map, hx]; rfl
      obtain ⟨i2, hi3, hk2, hx2⟩ := key_at hp2 hxm
      have e4 := implDoc_ok fl rows ents nx x.doc.key hfl hm hes hn hok i2 _ hk2 hx2
      have hxl : x.doc.cells.length ≤ 1099511627776 := (hm.2 x hxm).2.1
      generalize rows.map (·.doc.key) = L at *
      obtain ⟨y, hy, hgy, _⟩ := drop_get hi default
      rw [h1] at hy
      obtain rfl := Option.some.inj hy
      simp only [go_sem, ↓reduceIte, Nat.reduceAdd, Nat.reduceSub, Nat.reduceEqDiff, Nat.reduceLT, Nat.reduceLeDiff, Nat.reduceMul, Int.reduceNeg, Int.reduceToNat, Int.reduceEq, Int.reduceLT, Int.reduceLE, reduceCtorEq, hi, hi2, hw, hg, hx, h1, hgy, e4, hxl]
      exact ⟨by decide +kernel, ih'⟩
    · rintro _ -
      simp only [go_sem, ↓reduceIte, Nat.reduceAdd, Nat.reduceSub, Nat.reduceEqDiff, Nat.reduceLT, Nat.reduceLeDiff, Nat.reduceMul, Int.reduceNeg, Int.reduceToNat, Int.reduceEq, Int.reduceLT, Int.reduceLE, reduceCtorEq]
end Go.Proofs.YtjagjfjhinlgiaaGreatDoor.PVE
