/- Drawn indexes with a document, or a key; the laws of putting in and taking out. -/
import Derived.Test.YtjagjfjhinlgiaaGreatDoorT42
set_option linter.unusedVariables false
set_option linter.unusedSimpArgs false
set_option maxRecDepth 100000
namespace Go.Proofs.YtjagjfjhinlgiaaGreatDoor.PVE
open PV Query
theorem less_len (rows : List DRow) (k : Str) : (lessKey rows k).length ≤ rows.length := List.length_filter_le _ _
theorem sdIndex0_R : R S0 29 [.agg [.sl [], .sl [], .sl [], .int .i64 0], .agg [.sl [], .sl [], .sl [], .int .i64 0]] = some ⟨[none, none], .bool true⟩ := sdIndexI_R [] [] [] 0 (by simp) ⟨by simp, by simp⟩ ⟨by simp, by simp⟩
def KeyPost (b : Str) (p c : Nat) (r : Ans) : Prop := ∃ k : Str, ∃ p' : Nat, r = ⟨[some (.pto [.sl (b.map bytePV), .int .i64 (p' : Nat)]), none], .str k⟩ ∧ p ≤ p' ∧ p' ≤ p + c
theorem key_ex (fl : List Field) (rows : List DRow) (ents : List Entry) (nx : Int) (hr : rows.length ≤ 21) (b : Str) (p : Nat) (hp : p + 100 ≤ 1099511627776) (hb : b.length ≤ 2000) : ∃ r, R S0 72 [.pto [.sl (b.map bytePV), .int .i64 p], .agg [.sl (fl.map Field.pv), .sl (rows.map DRow.pvF), .sl (ents.map Entry.pvF), .int .i64 nx]] = some r ∧ KeyPost b p 2 r := by
  have hm := more (p := p) (by omega)
  refine (fun ⟨r, h, hp⟩ => ⟨r, go72 rfl h, hp⟩ : (∃ r, Ends S0 _ _ r ∧ _) → _) ?_
  by_cases h0 : 0 < (rows.length : Int)
  · by_cases h1 : 0 < pickV b p 4
    · have hk := pickV_in (b := b) (p := p + 1) (n := rows.length) (by omega) hb
      have hk2 := hk.2 (by omega)
      have e : pickV b (p + 1) rows.length = ((pickV b (p + 1) rows.length).toNat : Int) := by omega
      have hi : (pickV b (p + 1) rows.length).toNat < rows.length := by omega
      obtain ⟨x, hx, hg, _⟩ := drop_get hi default
      generalize hj : (pickV b (p + 1) rows.length).toNat = j at e hi hx hg
      simp only [go_sem, ↓reduceIte, Nat.reduceAdd, Nat.reduceSub, Nat.reduceEqDiff, Nat.reduceLT, Nat.reduceLeDiff, Nat.reduceMul, Int.reduceNeg, Int.reduceToNat, Int.reduceEq, Int.reduceLT, Int.reduceLE, reduceCtorEq, Tryz.f72, hm, hb, h0, h1, e, hi, hx, hg, ex_if, ex_bool, ex_and, ex_eq]
      exact ⟨by decide +kernel, _, _, rfl, by omega, by omega⟩
    · simp only [go_sem, ↓reduceIte, Nat.reduceAdd, Nat.reduceSub, Nat.reduceEqDiff, Nat.reduceLT, Nat.reduceLeDiff, Nat.reduceMul, Int.reduceNeg, Int.reduceToNat, Int.reduceEq, Int.reduceLT, Int.reduceLE, reduceCtorEq, Tryz.f72, hm, hb, h0, h1, ex_if, ex_bool, ex_and, ex_eq]
      exact ⟨_, _, rfl, by omega, by omega⟩
  · simp only [go_sem, ↓reduceIte, Nat.reduceAdd, Nat.reduceSub, Nat.reduceEqDiff, Nat.reduceLT, Nat.reduceLeDiff, Nat.reduceMul, Int.reduceNeg, Int.reduceToNat, Int.reduceEq, Int.reduceLT, Int.reduceLE, reduceCtorEq, Tryz.f72, hm, hb, h0, ex_if, ex_bool, ex_and, ex_eq]
    exact ⟨_, _, rfl, by omega, by omega⟩
def DDrPost (r : Ans) : Prop := ∃ fl : List Field, ∃ rows : List DRow, ∃ ents : List Entry, ∃ nx : Int, ∃ k : Str, r = ⟨[none], .tup [.agg [.sl (fl.map Field.pv), .sl (rows.map DRow.pvF), .sl (ents.map Entry.pvF), .int .i64 nx], .str k]⟩ ∧ FSm fl ∧ RowsS 21 5 rows ∧ EntSm ents ∧ -1 ≤ nx ∧ nx ≤ 999999999
theorem drawIndexDrop_ex (b : Str) : ∃ r, R S0 30 [.sl (b.map bytePV)] = some r ∧ DDrPost r := by
  have hb : (b.take 2000).length ≤ 2000 := by simp; omega
  obtain ⟨r1, hr1, fl, rows, ents, nx, p1, rfl, h1, h2, hfl, hrs, hes, hn1, hn2⟩ := anyIndex_ex (b.take 2000) 0 (by omega) hb
  obtain ⟨r2, hr2, k, p2, rfl, h3, h4⟩ := key_ex fl rows ents nx hrs.1 (b.take 2000) p1 (by omega) hb
  rw [show ((0 : Nat) : Int) = 0 from rfl] at hr1
  refine (fun ⟨r, h, hp⟩ => ⟨r, go30 rfl h, hp⟩ : (∃ r, Ends S0 _ _ r ∧ _) → _) ?_
  simp only [go_sem, ↓reduceIte, Nat.reduceAdd, Nat.reduceSub, Nat.reduceEqDiff, Nat.reduceLT, Nat.reduceLeDiff, Nat.reduceMul, Int.reduceNeg, Int.reduceToNat, Int.reduceEq, Int.reduceLT, Int.reduceLE, reduceCtorEq, Tryz.f30, hr1, hr2, hb, ex_if, ex_bool, ex_and, ex_eq]
  exact ⟨by decide +kernel, fl, rows, ents, nx, k, rfl, hfl, hrs, hes, hn1, hn2⟩
def DPutPost (r : Ans) : Prop := ∃ fl : List Field, ∃ rows : List DRow, ∃ ents : List Entry, ∃ nx : Int, ∃ d : Doc, r = ⟨[none], .tup [.agg [.sl (fl.map Field.pv), .sl (rows.map DRow.pvF), .sl (ents.map Entry.pvF), .int .i64 nx], .agg [.str d.key, .sl (d.cells.map Cell.pv)]]⟩ ∧ FSm fl ∧ RowsS 21 5 rows ∧ EntSm ents ∧ -1 ≤ nx ∧ nx ≤ 999999999 ∧ DSt 5 d
theorem drawIndexPut_ex (b : Str) : ∃ r, R S0 26 [.sl (b.map bytePV)] = some r ∧ DPutPost r := by
  have hb : (b.take 2000).length ≤ 2000 := by simp; omega
  obtain ⟨r1, hr1, fl, rows, ents, nx, p1, rfl, h1, h2, hfl, hrs, hes, hn1, hn2⟩ := anyIndex_ex (b.take 2000) 0 (by omega) hb
  obtain ⟨r2, hr2, d, p2, rfl, j1, j2, jd⟩ := anyDoc_ex fl hfl (b.take 2000) p1 (by omega) hb
  rw [show ((0 : Nat) : Int) = 0 from rfl] at hr1
  refine (fun ⟨r, h, hp⟩ => ⟨r, go26 rfl h, hp⟩ : (∃ r, Ends S0 _ _ r ∧ _) → _) ?_
  simp only [go_sem, ↓reduceIte, Nat.reduceAdd, Nat.reduceSub, Nat.reduceEqDiff, Nat.reduceLT, Nat.reduceLeDiff, Nat.reduceMul, Int.reduceNeg, Int.reduceToNat, Int.reduceEq, Int.reduceLT, Int.reduceLE, reduceCtorEq, Tryz.f26, hr1, hr2, hb, ex_if, ex_bool, ex_and, ex_eq]
  exact ⟨by decide +kernel, fl, rows, ents, nx, d, rfl, hfl, hrs, hes, hn1, hn2, jd⟩
@[go_sem] theorem FnIndexDrop_R (b : Str) (hb : b.length ≤ 9223372036854775807) : R S0 7 [.sl (b.map bytePV)] = some ⟨[none], .bool true⟩ := by
  by_cases h : 1048576 < (b.length : Int)
  · refine go7 rfl ?_; simp only [go_sem, ↓reduceIte, Nat.reduceAdd, Nat.reduceSub, Nat.reduceEqDiff, Nat.reduceLT, Nat.reduceLeDiff, Nat.reduceMul, Int.reduceNeg, Int.reduceToNat, Int.reduceEq, Int.reduceLT, Int.reduceLE, reduceCtorEq, Tryz.f7, h]
  obtain ⟨r, hr, fl, rows, ents, nx, k, rfl, hfl, hrs, hes, hn1, hn2⟩ := drawIndexDrop_ex b
  have hm := hrs.sm (by omega) (by omega)
  have hn : -9223372036854775807 ≤ nx ∧ nx ≤ 9223372036854775807 := by omega
  have hf1 : fl.length ≤ 1099511627776 := hfl.1
  cases hok : indexOkS fl rows ents nx with
  | false =>
    have e1 := implDrop_bad fl rows ents nx k hfl hm hes hn hok
    have e2 := specDrop_bad fl rows ents nx k hfl hm hes hn hok
    refine go7 rfl ?_; simp only [go_sem, ↓reduceIte, Nat.reduceAdd, Nat.reduceSub, Nat.reduceEqDiff, Nat.reduceLT, Nat.reduceLeDiff, Nat.reduceMul, Int.reduceNeg, Int.reduceToNat, Int.reduceEq, Int.reduceLT, Int.reduceLE, reduceCtorEq, Tryz.f7, h, hr, hfl, hm, hes, hn, hok, e1, e2, sdIndex0_R]
  | true =>
    obtain ⟨ho1, ho2, ho3, ho4, rfl⟩ := indexOk_parts hok
    obtain ⟨hp1, hp2, hp3⟩ := rowsOk_iff.1 ho1
    by_cases hk : keyIx rows k < 0
    · have e1 := implDrop_none fl rows (madeE fl rows) nx k hfl hm hes hn hok hk
      have e2 := specDrop_none fl rows (madeE fl rows) nx k hfl hm hes hn hok hk
      have e3 := implDoc_none fl rows (madeE fl rows) nx k hfl hm hes hn hok hk
      refine go7 rfl ?_; simp only [go_sem, ↓reduceIte, Nat.reduceAdd, Nat.reduceSub, Nat.reduceEqDiff, Nat.reduceLT, Nat.reduceLeDiff, Nat.reduceMul, Int.reduceNeg, Int.reduceToNat, Int.reduceEq, Int.reduceLT, Int.reduceLE, reduceCtorEq, Tryz.f7, h, hr, hfl, hm, hes, hn, hok, e1, e2, e3, hf1]
      refine ends_for rows.length (by omega) (fun i _ => mkSt [(3, .addr 0 0 0), (4, .str k), (5, .addr 1 0 0), (6, .bool false), (10, .bool false), (12, .bool false), (13, .int .i64 ((lessKey (rows.take i) k).length : Nat)), (14, .int .i64 i)] [.pto [.sl (fl.map Field.pv), .sl (rows.map DRow.pvF), .sl ((madeE fl rows).map Entry.pvF), .int .i64 nx], .pto [.sl (fl.map Field.pv), .sl (rows.map DRow.pvF), .sl ((madeE fl rows).map Entry.pvF), .int .i64 nx]]) (fun _ _ => True) 0 () (by omega) trivial ?_ ?_
      · rintro i _ hi - hw ih
        obtain ⟨x, hx, hg, _⟩ := drop_get hi default
        have ih' := ih () trivial
        by_cases c : x.doc.key = k
        · have e : lessKey (rows.take (i + 1)) k = lessKey (rows.take i) k := by rw [lessKey, List.take_add_one, hx, List.filter_append]; simp [c, lessKey]
          rw [e] at ih'
          simp only [go_sem, ↓reduceIte, Nat.reduceAdd, Nat.reduceSub, Nat.reduceEqDiff, Nat.reduceLT, Nat.reduceLeDiff, Nat.reduceMul, Int.reduceNeg, Int.reduceToNat, Int.reduceEq, Int.reduceLT, Int.reduceLE, reduceCtorEq, hi, hw, hg, hx, eq_true c]
          exact ih'
        · have e : lessKey (rows.take (i + 1)) k = lessKey (rows.take i) k ++ [x] := by rw [lessKey, List.take_add_one, hx, List.filter_append]; simp [c, lessKey]
          rw [e, List.length_append, List.length_singleton] at ih'
          have ha := filtM_at (p := fun r : DRow => !decide (r.doc.key = k)) (f := id) hx (by simp [c])
          have hlt := filtM_lt (p := fun r : DRow => !decide (r.doc.key = k)) (f := id) hx (by simp [c])
          rw [List.map_id] at ha hlt
          change (lessKey rows k)[(lessKey (rows.take i) k).length]? = some x at ha
          change (lessKey (rows.take i) k).length < (lessKey rows k).length at hlt
          rw [less_none hk] at ha hlt
          have hle := less_len (rows.take i) k
          simp only [List.length_take] at hle
          generalize (lessKey (rows.take i) k).length = n at *
          have hn2 : IntKind.i64.wrap ((n : Int) + 1) = ((n + 1 : Nat) : Int) := by rw [wrap_in (by omega) (by omega)]; omega
          have hnl : ¬ ((rows).length : Int) ≤ (n : Int) := by omega
          obtain ⟨y, hy, hgy, _⟩ := drop_get hlt default
          rw [ha] at hy
          obtain rfl := Option.some.inj hy
          simp only [go_sem, ↓reduceIte, Nat.reduceAdd, Nat.reduceSub, Nat.reduceEqDiff, Nat.reduceLT, Nat.reduceLeDiff, Nat.reduceMul, Int.reduceNeg, Int.reduceToNat, Int.reduceEq, Int.reduceLT, Int.reduceLE, reduceCtorEq, hi, hw, hg, hx, c, hn2, hnl, hlt, ha, hgy]
          exact ih'
      · rintro _ -
        rw [List.take_length]
        simp only [go_sem, ↓reduceIte, Nat.reduceAdd, Nat.reduceSub, Nat.reduceEqDiff, Nat.reduceLT, Nat.reduceLeDiff, Nat.reduceMul, Int.reduceNeg, Int.reduceToNat, Int.reduceEq, Int.reduceLT, Int.reduceLE, reduceCtorEq, hfl, hm, hes, hn, hok, less_none hk, hf1]
    · have hI2 := indexOk_less hok k
      have st2 := indexOk_st hI2
      have hm2 := st2.sm (by omega) (by omega)
      have he2 := made_sm fl (st2.st (by omega) (by omega))
      obtain ⟨r0, hr0, hk0⟩ : ∃ r ∈ rows, r.doc.key = k := by
        rw [keyIx_neg, Bool.not_eq_false, List.any_eq_true] at hk
        obtain ⟨r, h1, h2⟩ := hk
        exact ⟨r, h1, by simpa using h2⟩
      obtain ⟨i0, hi0, hk1, hx0⟩ := key_at hp2 hr0
      rw [hk0] at hk1
      have e1 := implDrop_ok fl rows (madeE fl rows) nx k hfl hm hes hn hok hk
      have e2 := specDrop_ok fl rows (madeE fl rows) nx k hfl hm hes hn hok hk
      have e3 := implDoc_none fl _ (madeE fl (lessKey rows k)) nx k hfl hm2 he2 hn hI2 (less_no rows k)
      have e4 := implDoc_ok fl rows (madeE fl rows) nx k hfl hm hes hn hok i0 r0 hk1 hx0
      refine go7 rfl ?_; simp only [go_sem, ↓reduceIte, Nat.reduceAdd, Nat.reduceSub, Nat.reduceEqDiff, Nat.reduceLT, Nat.reduceLeDiff, Nat.reduceMul, Int.reduceNeg, Int.reduceToNat, Int.reduceEq, Int.reduceLT, Int.reduceLE, reduceCtorEq, Tryz.f7, h, hr, hfl, hm, hes, hn, hok, e1, e2, e3, e4, hf1, hI2, hm2, he2]
      refine ends_for rows.length (by omega) (fun i _ => mkSt [(3, .addr 0 0 0), (4, .str k), (5, .addr 1 0 0), (6, .bool true), (10, .bool false), (12, .bool true), (13, .int .i64 ((lessKey (rows.take i) k).length : Nat)), (14, .int .i64 i)] [.pto [.sl (fl.map Field.pv), .sl (rows.map DRow.pvF), .sl ((madeE fl rows).map Entry.pvF), .int .i64 nx], .pto [.sl (fl.map Field.pv), .sl ((lessKey rows k).map DRow.pvF), .sl ((madeE fl (lessKey rows k)).map Entry.pvF), .int .i64 nx]]) (fun _ _ => True) 0 () (by omega) trivial ?_ ?_
      · rintro i _ hi - hw ih
        obtain ⟨x, hx, hg, _⟩ := drop_get hi default
        have ih' := ih () trivial
        by_cases c : x.doc.key = k
        · have e : lessKey (rows.take (i + 1)) k = lessKey (rows.take i) k := by rw [lessKey, List.take_add_one, hx, List.filter_append]; simp [c, lessKey]
          rw [e] at ih'
          simp only [go_sem, ↓reduceIte, Nat.reduceAdd, Nat.reduceSub, Nat.reduceEqDiff, Nat.reduceLT, Nat.reduceLeDiff, Nat.reduceMul, Int.reduceNeg, Int.reduceToNat, Int.reduceEq, Int.reduceLT, Int.reduceLE, reduceCtorEq, hi, hw, hg, hx, eq_true c]
          exact ih'
        · have e : lessKey (rows.take (i + 1)) k = lessKey (rows.take i) k ++ [x] := by rw [lessKey, List.take_add_one, hx, List.filter_append]; simp [c, lessKey]
          rw [e, List.length_append, List.length_singleton] at ih'
          have ha := filtM_at (p := fun r : DRow => !decide (r.doc.key = k)) (f := id) hx (by simp [c])
          have hlt := filtM_lt (p := fun r : DRow => !decide (r.doc.key = k)) (f := id) hx (by simp [c])
          rw [List.map_id] at ha hlt
          change (lessKey rows k)[(lessKey (rows.take i) k).length]? = some x at ha
          change (lessKey (rows.take i) k).length < (lessKey rows k).length at hlt
          have hle := less_len (rows.take i) k
          simp only [List.length_take] at hle
          generalize (lessKey (rows.take i) k).length = n at *
          have hn2 : IntKind.i64.wrap ((n : Int) + 1) = ((n + 1 : Nat) : Int) := by rw [wrap_in (by omega) (by omega)]; omega
          have hnl : ¬ (((lessKey rows k)).length : Int) ≤ (n : Int) := by omega
          obtain ⟨y, hy, hgy, _⟩ := drop_get hlt default
          rw [ha] at hy
          obtain rfl := Option.some.inj hy
          simp only [go_sem, ↓reduceIte, Nat.reduceAdd, Nat.reduceSub, Nat.reduceEqDiff, Nat.reduceLT, Nat.reduceLeDiff, Nat.reduceMul, Int.reduceNeg, Int.reduceToNat, Int.reduceEq, Int.reduceLT, Int.reduceLE, reduceCtorEq, hi, hw, hg, hx, c, hn2, hnl, hlt, ha, hgy]
          exact ih'
      · rintro _ -
        rw [List.take_length]
        simp only [go_sem, ↓reduceIte, Nat.reduceAdd, Nat.reduceSub, Nat.reduceEqDiff, Nat.reduceLT, Nat.reduceLeDiff, Nat.reduceMul, Int.reduceNeg, Int.reduceToNat, Int.reduceEq, Int.reduceLT, Int.reduceLE, reduceCtorEq, hfl, hm, hes, hn, hok, hI2, hm2, he2]
@[go_sem] theorem FnIndexBack_R (b : Str) (hb : b.length ≤ 9223372036854775807) : R S0 9 [.sl (b.map bytePV)] = some ⟨[none], .bool true⟩ := by
  by_cases h : 1048576 < (b.length : Int)
  · refine go9 rfl ?_; simp only [go_sem, ↓reduceIte, Nat.reduceAdd, Nat.reduceSub, Nat.reduceEqDiff, Nat.reduceLT, Nat.reduceLeDiff, Nat.reduceMul, Int.reduceNeg, Int.reduceToNat, Int.reduceEq, Int.reduceLT, Int.reduceLE, reduceCtorEq, Tryz.f9, h]
  obtain ⟨r, hr, fl, rows, ents, nx, d, rfl, hfl, hrs, hes, hn1, hn2, hds⟩ := drawIndexPut_ex b
  have hd := hds.sm (by omega)
  have hm := hrs.sm (by omega) (by omega)
  have hn : -9223372036854775807 ≤ nx ∧ nx ≤ 9223372036854775807 := by omega
  have hf1 : fl.length ≤ 1099511627776 := hfl.1
  cases hok : indexOkS fl rows ents nx with
  | false =>
    have e1 := implPut_bad fl rows ents nx d hfl hm hes hn hd hok
    have e2 := specPut_bad fl rows ents nx d hfl hm hes hn hd hok
    refine go9 rfl ?_; simp only [go_sem, ↓reduceIte, Nat.reduceAdd, Nat.reduceSub, Nat.reduceEqDiff, Nat.reduceLT, Nat.reduceLeDiff, Nat.reduceMul, Int.reduceNeg, Int.reduceToNat, Int.reduceEq, Int.reduceLT, Int.reduceLE, reduceCtorEq, Tryz.f9, h, hr, hfl, hm, hes, hn, hok, e1, e2, sdIndex0_R]
  | true =>
    obtain ⟨ho1, ho2, ho3, ho4, rfl⟩ := indexOk_parts hok
    obtain ⟨hp1, hp2, hp3⟩ := rowsOk_iff.1 ho1
    cases hc : canPut fl rows nx d with
    | false =>
      have e1 := implPut_none fl rows (madeE fl rows) nx d hfl hm hes hn hd hok hc
      have e2 := specPut_none fl rows (madeE fl rows) nx d hfl hm hes hn hd hok hc
      refine go9 rfl ?_; simp only [go_sem, ↓reduceIte, Nat.reduceAdd, Nat.reduceSub, Nat.reduceEqDiff, Nat.reduceLT, Nat.reduceLeDiff, Nat.reduceMul, Int.reduceNeg, Int.reduceToNat, Int.reduceEq, Int.reduceLT, Int.reduceLE, reduceCtorEq, Tryz.f9, h, hr, hfl, hm, hes, hn, hok, e1, e2, hf1]
    | true =>
      have hI2 := putOk hok hc
      have st2 := indexOk_st hI2
      have hm2 := st2.sm (by omega) (by omega)
      have he2 := made_sm fl (st2.st (by omega) (by omega))
      have e1 := implPut_ok fl rows (madeE fl rows) nx d hfl hm hes hn hd hok hc
      have e2 := specPut_ok fl rows (madeE fl rows) nx d hfl hm hes hn hd hok hc
      have hn3 : -9223372036854775807 ≤ nx + 1 ∧ nx + 1 ≤ 9223372036854775807 := by omega
      have hk2 : ¬ keyIx (putRows rows nx d) d.key < 0 := by
        rw [keyIx_neg, Bool.not_eq_false, List.any_eq_true]
        exact ⟨_, List.mem_append_right _ (List.mem_singleton.2 rfl), by simp⟩
      have e4 := implDrop_ok fl _ _ _ d.key hfl hm2 he2 hn3 hI2 hk2
      by_cases hk : keyIx rows d.key < 0
      · have e3 := implDoc_none fl rows (madeE fl rows) nx d.key hfl hm hes hn hok hk
        have e5 : lessKey (putRows rows nx d) d.key = rows := by
          rw [putRows, less_none hk, lessKey, List.filter_append]
          have := less_none hk
          rw [lessKey] at this
          rw [this]; simp
        rw [e5] at e4
        refine go9 rfl ?_; simp only [go_sem, ↓reduceIte, Nat.reduceAdd, Nat.reduceSub, Nat.reduceEqDiff, Nat.reduceLT, Nat.reduceLeDiff, Nat.reduceMul, Int.reduceNeg, Int.reduceToNat, Int.reduceEq, Int.reduceLT, Int.reduceLE, reduceCtorEq, Tryz.f9, h, hr, hfl, hm, hes, hn, hok, e1, e2, e3, e4, hf1, hm2, he2]
      · obtain ⟨r0, hr0, hk0⟩ : ∃ r ∈ rows, r.doc.key = d.key := by
          rw [keyIx_neg, Bool.not_eq_false, List.any_eq_true] at hk
          obtain ⟨r, h1, h2⟩ := hk
          exact ⟨r, h1, by simpa using h2⟩
        obtain ⟨i, hi, hk1, hx⟩ := key_at hp2 hr0
        rw [hk0] at hk1
        have e3 := implDoc_ok fl rows (madeE fl rows) nx d.key hfl hm hes hn hok i r0 hk1 hx
        refine go9 rfl ?_; simp only [go_sem, ↓reduceIte, Nat.reduceAdd, Nat.reduceSub, Nat.reduceEqDiff, Nat.reduceLT, Nat.reduceLeDiff, Nat.reduceMul, Int.reduceNeg, Int.reduceToNat, Int.reduceEq, Int.reduceLT, Int.reduceLE, reduceCtorEq, Tryz.f9, h, hr, hfl, hm, hes, hn, hok, e1, e2, e3, e4, hf1, hm2, he2]
@[go_sem] theorem FnIndexPut_R (b : Str) (hb : b.length ≤ 9223372036854775807) : R S0 8 [.sl (b.map bytePV)] = some ⟨[none], .bool true⟩ := by
  by_cases h : 1048576 < (b.length : Int)
  · refine go8 rfl ?_; simp only [go_sem, ↓reduceIte, Nat.reduceAdd, Nat.reduceSub, Nat.reduceEqDiff, Nat.reduceLT, Nat.reduceLeDiff, Nat.reduceMul, Int.reduceNeg, Int.reduceToNat, Int.reduceEq, Int.reduceLT, Int.reduceLE, reduceCtorEq, Tryz.f8, h]
  obtain ⟨r, hr, fl, rows, ents, nx, d, rfl, hfl, hrs, hes, hn1, hn2, hds⟩ := drawIndexPut_ex b
  have hd := hds.sm (by omega)
  have hm := hrs.sm (by omega) (by omega)
  have hn : -9223372036854775807 ≤ nx ∧ nx ≤ 9223372036854775807 := by omega
  have hf1 : fl.length ≤ 1099511627776 := hfl.1
  cases hok : indexOkS fl rows ents nx with
  | false =>
    have e1 := implPut_bad fl rows ents nx d hfl hm hes hn hd hok
    have e2 := specPut_bad fl rows ents nx d hfl hm hes hn hd hok
    refine go8 rfl ?_; simp only [go_sem, ↓reduceIte, Nat.reduceAdd, Nat.reduceSub, Nat.reduceEqDiff, Nat.reduceLT, Nat.reduceLeDiff, Nat.reduceMul, Int.reduceNeg, Int.reduceToNat, Int.reduceEq, Int.reduceLT, Int.reduceLE, reduceCtorEq, Tryz.f8, h, hr, hfl, hm, hes, hn, hok, e1, e2, sdIndex0_R]
  | true =>
    obtain ⟨ho1, ho2, ho3, ho4, rfl⟩ := indexOk_parts hok
    obtain ⟨hp1, hp2, hp3⟩ := rowsOk_iff.1 ho1
    cases hc : canPut fl rows nx d with
    | false =>
      have e1 := implPut_none fl rows (madeE fl rows) nx d hfl hm hes hn hd hok hc
      have e2 := specPut_none fl rows (madeE fl rows) nx d hfl hm hes hn hd hok hc
      refine go8 rfl ?_; simp only [go_sem, ↓reduceIte, Nat.reduceAdd, Nat.reduceSub, Nat.reduceEqDiff, Nat.reduceLT, Nat.reduceLeDiff, Nat.reduceMul, Int.reduceNeg, Int.reduceToNat, Int.reduceEq, Int.reduceLT, Int.reduceLE, reduceCtorEq, Tryz.f8, h, hr, hfl, hm, hes, hn, hok, e1, e2, hf1]
    | true =>
      have hI2 := putOk hok hc
      have st2 := indexOk_st hI2
      have hm2 := st2.sm (by omega) (by omega)
      have he2 := made_sm fl (st2.st (by omega) (by omega))
      have e1 := implPut_ok fl rows (madeE fl rows) nx d hfl hm hes hn hd hok hc
      have e2 := specPut_ok fl rows (madeE fl rows) nx d hfl hm hes hn hd hok hc
      have hn3 : -9223372036854775807 ≤ nx + 1 ∧ nx + 1 ≤ 9223372036854775807 := by omega
      obtain ⟨hq1, hq2, hq3⟩ := rowsOk_iff.1 (indexOk_parts hI2).1
      have hnew : DRow.mk nx (Doc.mk d.key d.cells) ∈ putRows rows nx d := List.mem_append_right _ (List.mem_singleton.2 rfl)
      obtain ⟨j, hj, hk1, hx1⟩ := key_at hq2 hnew
      have e3 := implDoc_ok fl (putRows rows nx d) (madeE fl (putRows rows nx d)) (nx + 1) d.key hfl hm2 he2 hn3 hI2 j _ hk1 hx1
      refine go8 rfl ?_; simp only [go_sem, ↓reduceIte, Nat.reduceAdd, Nat.reduceSub, Nat.reduceEqDiff, Nat.reduceLT, Nat.reduceLeDiff, Nat.reduceMul, Int.reduceNeg, Int.reduceToNat, Int.reduceEq, Int.reduceLT, Int.reduceLE, reduceCtorEq, Tryz.f8, h, hr, hfl, hm, hes, hn, hok, e1, e2, e3, hf1, hm2, he2]
      have hdl : d.cells.length ≤ 1099511627776 := by have := hds.2.1; omega
      have hw1 : IntKind.i64.wrap (nx + 1) = nx + 1 := wrap_in (by omega) (by omega)
      refine ends_for rows.length (by omega) (fun i _ => mkSt [(3, .addr 0 0 0), (4, .addr 1 0 0), (5, .addr 2 0 0), (6, .int .i64 nx), (11, .addr 3 0 0), (12, .bool true), (13, .int .i64 i)] [.pto [.sl (fl.map Field.pv), .sl (rows.map DRow.pvF), .sl ((madeE fl rows).map Entry.pvF), .int .i64 nx], .pto [.str d.key, .sl (d.cells.map Cell.pv)], .pto [.sl (fl.map Field.pv), .sl ((putRows rows nx d).map DRow.pvF), .sl ((madeE fl (putRows rows nx d)).map Entry.pvF), .int .i64 (nx + 1)], .pto [.str d.key, .slo 2 (d.cells.map Cell.pv)]]) (fun _ _ => True) 0 () (by omega) trivial ?_ ?_
      · rintro i _ hi - hw ih
        obtain ⟨x, hx, hg, _⟩ := drop_get hi default
        have hxm := List.mem_of_getElem? hx
        have ih' := ih () trivial
        by_cases c : x.doc.key = d.key
        · simp only [go_sem, ↓reduceIte, Nat.reduceAdd, Nat.reduceSub, Nat.reduceEqDiff, Nat.reduceLT, Nat.reduceLeDiff, Nat.reduceMul, Int.reduceNeg, Int.reduceToNat, Int.reduceEq, Int.reduceLT, Int.reduceLE, reduceCtorEq, hi, hw, hg, hx, eq_true c, c, e3, hdl]
          exact ⟨by decide +kernel, ih'⟩
        · have hin : x ∈ putRows rows nx d := List.mem_append_left _ (List.mem_filter.2 ⟨hxm, by simp [c]⟩)
          obtain ⟨i2, hi2, hk2, hx2⟩ := key_at hq2 hin
          have e4 := implDoc_ok fl (putRows rows nx d) (madeE fl (putRows rows nx d)) (nx + 1) x.doc.key hfl hm2 he2 hn3 hI2 i2 _ hk2 hx2
          have hxl : x.doc.cells.length ≤ 1099511627776 := (hm.2 x hxm).2.1
          simp only [go_sem, ↓reduceIte, Nat.reduceAdd, Nat.reduceSub, Nat.reduceEqDiff, Nat.reduceLT, Nat.reduceLeDiff, Nat.reduceMul, Int.reduceNeg, Int.reduceToNat, Int.reduceEq, Int.reduceLT, Int.reduceLE, reduceCtorEq, hi, hw, hg, hx, c, e4, hxl]
          exact ⟨by decide +kernel, ih'⟩
      · rintro _ -
        simp only [go_sem, ↓reduceIte, Nat.reduceAdd, Nat.reduceSub, Nat.reduceEqDiff, Nat.reduceLT, Nat.reduceLeDiff, Nat.reduceMul, Int.reduceNeg, Int.reduceToNat, Int.reduceEq, Int.reduceLT, Int.reduceLE, reduceCtorEq, hfl, hm2, he2, hn3, hI2, hdl, hw1]
end Go.Proofs.YtjagjfjhinlgiaaGreatDoor.PVE
