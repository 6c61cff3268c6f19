/- What is not looked for; one document more, one less: laws of finding. -/
import Derived.Test.YtdebinbhbdlbaaaGreatDoorT50
set_option linter.unusedVariables false
set_option linter.unusedSimpArgs false
set_option maxRecDepth 100000
namespace Go.Proofs.YtdebinbhbdlbaaaGreatDoor.PVE
open PV Query
theorem ask_of {fl : List Field} {rows : List DRow} {ents : List Entry} {nx : Int} {q : Query} (h1 : indexOkS fl rows ents nx = true) (h2 : fitsQ fl q = true) : askOk fl rows ents nx q = true := by
  rw [fitsQ] at h2
  rw [askOk, h1, h2]; rfl
theorem askOk_less {fl : List Field} {rows : List DRow} {ents : List Entry} {nx : Int} {q : Query} (h : askOk fl rows ents nx q = true) (k : Str) : askOk fl (lessKey rows k) (madeE fl (lessKey rows k)) nx q = true := by
  obtain ⟨h1, h2, _⟩ := ask_parts h
  rw [askOk, indexOk_less h1 k, h2]; rfl
@[go_sem] theorem FnFindLess_R (b c : Str) (hb : b.length ≤ 9223372036854775807) (hc : c.length ≤ 9223372036854775807) : R S0 4 [.sl (b.map bytePV), .sl (c.map bytePV)] = some ⟨[none, none], .bool true⟩ := by
  by_cases h : 1048576 < (b.length : Int)
  · refine go4 rfl ?_; simp only [go_sem, ↓reduceIte, Nat.reduceAdd, Nat.reduceSub, Nat.reduceEqDiff, Nat.reduceLT, Nat.reduceLeDiff, Nat.reduceMul, Int.reduceNeg, Int.reduceToNat, Int.reduceEq, Int.reduceLT, Int.reduceLE, reduceCtorEq, Tryz.f4, h]
  by_cases hh : 1048576 < (c.length : Int)
  · refine go4 rfl ?_; simp only [go_sem, ↓reduceIte, Nat.reduceAdd, Nat.reduceSub, Nat.reduceEqDiff, Nat.reduceLT, Nat.reduceLeDiff, Nat.reduceMul, Int.reduceNeg, Int.reduceToNat, Int.reduceEq, Int.reduceLT, Int.reduceLE, reduceCtorEq, Tryz.f4, h, hh]
  obtain ⟨r, hr, fl, rows, ents, nx, k, rfl, hfl, hrs, hes, hn1, hn2⟩ := drawIndexDrop_ex b
  obtain ⟨r2, hr2, fl2, rows2, ents2, nx2, q, rfl, hfl2, hrs2, hes2, hn12, hn22, hq⟩ := drawFind_ex c
  have hm := hrs.sm (by omega) (by omega)
  have hn : -9223372036854775807 ≤ nx ∧ nx ≤ 9223372036854775807 := by omega
  have hf1 : fl.length ≤ 1099511627776 := hfl.1
  cases hok : indexOkS fl rows ents nx with
  | false =>
    have e1 := implDrop_bad fl rows ents nx k hfl hm hes hn hok
    have e2 := specDrop_bad fl rows ents nx k hfl hm hes hn hok
    refine go4 rfl ?_; simp only [go_sem, ↓reduceIte, Nat.reduceAdd, Nat.reduceSub, Nat.reduceEqDiff, Nat.reduceLT, Nat.reduceLeDiff, Nat.reduceMul, Int.reduceNeg, Int.reduceToNat, Int.reduceEq, Int.reduceLT, Int.reduceLE, reduceCtorEq, Tryz.f4, h, hh, hr, hr2, hfl, hm, hes, hn, hok, e1, e2, sdIndex0_R]
    try decide +kernel
  | true =>
    obtain ⟨ho1, ho2, ho3, ho4, rfl⟩ := indexOk_parts hok
    obtain ⟨hp1, hp2, hp3⟩ := rowsOk_iff.1 ho1
    by_cases hk : keyIx rows k < 0
    · have e1 := implDrop_none fl rows (madeE fl rows) nx k hfl hm hes hn hok hk
      have e2 := specDrop_none fl rows (madeE fl rows) nx k hfl hm hes hn hok hk
      refine go4 rfl ?_; simp only [go_sem, ↓reduceIte, Nat.reduceAdd, Nat.reduceSub, Nat.reduceEqDiff, Nat.reduceLT, Nat.reduceLeDiff, Nat.reduceMul, Int.reduceNeg, Int.reduceToNat, Int.reduceEq, Int.reduceLT, Int.reduceLE, reduceCtorEq, Tryz.f4, h, hh, hr, hr2, hfl, hm, hes, hn, hok, e1, e2, hf1]
      try decide +kernel
    · have hI2 := indexOk_less hok k
      have st2 := indexOk_st hI2
      have hm2 := st2.sm (by omega) (by omega)
      have he2 := made_sm fl (st2.st (by omega) (by omega))
      have e1 := implDrop_ok fl rows (madeE fl rows) nx k hfl hm hes hn hok hk
      have e2 := specDrop_ok fl rows (madeE fl rows) nx k hfl hm hes hn hok hk
      cases c2 : (fieldsOk fl && okQ 4 q && fitsI fl q) with
      | false =>
        refine go4 rfl ?_; simp only [go_sem, ↓reduceIte, Nat.reduceAdd, Nat.reduceSub, Nat.reduceEqDiff, Nat.reduceLT, Nat.reduceLeDiff, Nat.reduceMul, Int.reduceNeg, Int.reduceToNat, Int.reduceEq, Int.reduceLT, Int.reduceLE, reduceCtorEq, Tryz.f4, h, hh, hr, hr2, hfl, hm, hes, hn, hok, e1, e2, hf1, hI2, hm2, he2, hq, c2]
        try decide +kernel
      | true =>
        have ha : askOk fl rows (madeE fl rows) nx q = true := ask_of hok c2
        have k1 := findA_ids ha
        have k2 := findA_ids (askOk_less ha k)
        have kk : (idsP (lessKey rows k) fun r => meetsM fl r.doc q) = (idsP rows fun r => meetsM fl r.doc q).filter fun n => !(idsP rows fun r => decide (r.doc.key = k)).contains n := by
          rw [idsP_less hp3, idsP, idsP, lessKey, List.filter_filter]
        rw [kk] at k2
        have o1 := idsP_ok hok fun r => meetsM fl r.doc q
        have o2 := idsP_ok hok fun r => decide (r.doc.key = k)
        have l1 := idsP_len hok fun r => meetsM fl r.doc q
        have l2 := idsP_len hok fun r => decide (r.doc.key = k)
        have s1 := setLess_R _ _ o1 o2 (by omega) (by omega)
        refine go4 rfl ?_; simp only [go_sem, ↓reduceIte, Nat.reduceAdd, Nat.reduceSub, Nat.reduceEqDiff, Nat.reduceLT, Nat.reduceLeDiff, Nat.reduceMul, Int.reduceNeg, Int.reduceToNat, Int.reduceEq, Int.reduceLT, Int.reduceLE, reduceCtorEq, Tryz.f4, h, hh, hr, hr2, hfl, hm, hes, hn, hok, e1, e2, hf1, hI2, hm2, he2, hq, c2]
        have hrl : rows.length ≤ 1099511627776 := hm.1
        refine ends_for rows.length (by omega) (fun i _ => mkSt [(5, .addr 0 0 0), (6, .str k), (7, .addr 1 0 0), (12, .addr 2 0 0), (13, .own 3), (14, .int .i64 i)] [.pto [.sl (fl.map Field.pv), .sl (rows.map DRow.pvF), .sl ((madeE fl rows).map Entry.pvF), .int .i64 nx], .pto [.sl (fl.map Field.pv), .sl ((lessKey rows k).map DRow.pvF), .sl ((madeE fl (lessKey rows k)).map Entry.pvF), .int .i64 nx], .pto [.int .i64 q.kind, .str q.field, .str q.text, .int .i64 q.low, .int .i64 q.high, .sl (q.parts.map pv)], .slo 1 ((idsP (rows.take i) fun r => decide (r.doc.key = k)).map (.int .i64))]) (fun _ _ => True) 0 () (by omega) trivial ?_ ?_
        · rintro i _ hi - hw ih
          obtain ⟨x, hx, hg, _⟩ := drop_get hi default
          have ih' := ih () trivial
          have hle := List.length_filter_le (fun r : DRow => decide (r.doc.key = k)) (rows.take i)
          have hli : (idsP (rows.take i) fun r => decide (r.doc.key = k)).length ≤ 1099511627776 := by
            rw [idsP, List.length_map]; simp only [List.length_take] at hle; omega
          by_cases c : x.doc.key = k
          · rw [idsP_succ hx, if_pos (decide_eq_true c)] at ih'
            simp only [go_sem, ↓reduceIte, Nat.reduceAdd, Nat.reduceSub, Nat.reduceEqDiff, Nat.reduceLT, Nat.reduceLeDiff, Nat.reduceMul, Int.reduceNeg, Int.reduceToNat, Int.reduceEq, Int.reduceLT, Int.reduceLE, reduceCtorEq, hi, hw, hg, hx, eq_true c]
            exact ⟨by omega, ih'⟩
          · rw [idsP_succ hx, if_neg (by simp [c]), List.append_nil] at ih'
            simp only [go_sem, ↓reduceIte, Nat.reduceAdd, Nat.reduceSub, Nat.reduceEqDiff, Nat.reduceLT, Nat.reduceLeDiff, Nat.reduceMul, Int.reduceNeg, Int.reduceToNat, Int.reduceEq, Int.reduceLT, Int.reduceLE, reduceCtorEq, hi, hw, hg, hx, c]
            exact ih'
        · rintro _ -
          rw [List.take_length]
          rw [← k1] at s1
          rw [← k1] at k2
          have lA : (findA fl rows (madeE fl rows) nx q).length ≤ 1099511627776 := by rw [k1]; omega
          have lB : (findA fl (lessKey rows k) (madeE fl (lessKey rows k)) nx q).length ≤ 1099511627776 := by
            have := findA_len (fl := fl) (rows := lessKey rows k) (ents := madeE fl (lessKey rows k)) (nx := nx) (q := q); omega
          rw [← k2] at s1
          simp only [go_sem, ↓reduceIte, Nat.reduceAdd, Nat.reduceSub, Nat.reduceEqDiff, Nat.reduceLT, Nat.reduceLeDiff, Nat.reduceMul, Int.reduceNeg, Int.reduceToNat, Int.reduceEq, Int.reduceLT, Int.reduceLE, reduceCtorEq, hfl, hm, hes, hn, hq, hm2, he2, s1, lB]
          decide +kernel
theorem less_app {rows : List DRow} {d : Doc} {nx : Int} (h : keyIx rows d.key < 0) : putRows rows nx d = rows ++ [DRow.mk nx (Doc.mk d.key d.cells)] := by rw [putRows, less_none h]
@[go_sem] theorem FnFindMore_R (b c : Str) (hb : b.length ≤ 9223372036854775807) (hc : c.length ≤ 9223372036854775807) : R S0 3 [.sl (b.map bytePV), .sl (c.map bytePV)] = some ⟨[none, none], .bool true⟩ := by
  by_cases h : 1048576 < (b.length : Int)
  · refine go3 rfl ?_; simp only [go_sem, ↓reduceIte, Nat.reduceAdd, Nat.reduceSub, Nat.reduceEqDiff, Nat.reduceLT, Nat.reduceLeDiff, Nat.reduceMul, Int.reduceNeg, Int.reduceToNat, Int.reduceEq, Int.reduceLT, Int.reduceLE, reduceCtorEq, Tryz.f3, h]
  by_cases hh : 1048576 < (c.length : Int)
  · refine go3 rfl ?_; simp only [go_sem, ↓reduceIte, Nat.reduceAdd, Nat.reduceSub, Nat.reduceEqDiff, Nat.reduceLT, Nat.reduceLeDiff, Nat.reduceMul, Int.reduceNeg, Int.reduceToNat, Int.reduceEq, Int.reduceLT, Int.reduceLE, reduceCtorEq, Tryz.f3, h, hh]
  obtain ⟨r, hr, fl, rows, ents, nx, d, rfl, hfl, hrs, hes, hn1, hn2, hds⟩ := drawIndexPut_ex b
  obtain ⟨r2, hr2, fl2, rows2, ents2, nx2, q, rfl, hfl2, hrs2, hes2, hn12, hn22, hq⟩ := drawFind_ex c
  have hd := hds.sm (by omega)
  have hm := hrs.sm (by omega) (by omega)
  have hn : -9223372036854775807 ≤ nx ∧ nx ≤ 9223372036854775807 := by omega
  have hf1 : fl.length ≤ 1099511627776 := hfl.1
  cases hok : indexOkS fl rows ents nx with
  | false =>
    have e1 := implPut_bad fl rows ents nx d hfl hm hes hn hd hok
    have e2 := specPut_bad fl rows ents nx d hfl hm hes hn hd hok
    refine go3 rfl ?_; simp only [go_sem, ↓reduceIte, Nat.reduceAdd, Nat.reduceSub, Nat.reduceEqDiff, Nat.reduceLT, Nat.reduceLeDiff, Nat.reduceMul, Int.reduceNeg, Int.reduceToNat, Int.reduceEq, Int.reduceLT, Int.reduceLE, reduceCtorEq, Tryz.f3, h, hh, hr, hr2, hfl, hm, hes, hn, hok, e1, e2, sdIndex0_R]
    try decide +kernel
  | true =>
    obtain ⟨ho1, ho2, ho3, ho4, rfl⟩ := indexOk_parts hok
    obtain ⟨hp1, hp2, hp3⟩ := rowsOk_iff.1 ho1
    cases hc : canPut fl rows nx d with
    | false =>
      have e1 := implPut_none fl rows (madeE fl rows) nx d hfl hm hes hn hd hok hc
      have e2 := specPut_none fl rows (madeE fl rows) nx d hfl hm hes hn hd hok hc
      refine go3 rfl ?_; simp only [go_sem, ↓reduceIte, Nat.reduceAdd, Nat.reduceSub, Nat.reduceEqDiff, Nat.reduceLT, Nat.reduceLeDiff, Nat.reduceMul, Int.reduceNeg, Int.reduceToNat, Int.reduceEq, Int.reduceLT, Int.reduceLE, reduceCtorEq, Tryz.f3, h, hh, hr, hr2, hfl, hm, hes, hn, hok, e1, e2, hf1]
      try decide +kernel
    | true =>
      have hI2 := putOk hok hc
      have st2 := indexOk_st hI2
      have hm2 := st2.sm (by omega) (by omega)
      have he2 := made_sm fl (st2.st (by omega) (by omega))
      have e1 := implPut_ok fl rows (madeE fl rows) nx d hfl hm hes hn hd hok hc
      have e2 := specPut_ok fl rows (madeE fl rows) nx d hfl hm hes hn hd hok hc
      have hn3 : -9223372036854775807 ≤ nx + 1 ∧ nx + 1 ≤ 9223372036854775807 := by omega
      cases c2 : (fieldsOk fl && okQ 4 q && fitsI fl q) with
      | false =>
        refine go3 rfl ?_; simp only [go_sem, ↓reduceIte, Nat.reduceAdd, Nat.reduceSub, Nat.reduceEqDiff, Nat.reduceLT, Nat.reduceLeDiff, Nat.reduceMul, Int.reduceNeg, Int.reduceToNat, Int.reduceEq, Int.reduceLT, Int.reduceLE, reduceCtorEq, Tryz.f3, h, hh, hr, hr2, hfl, hm, hes, hn, hok, e1, e2, hf1, hI2, hm2, he2, hq, c2]
        try decide +kernel
      | true =>
        by_cases hk : keyIx rows d.key < 0
        · have e3 := implDoc_none fl rows (madeE fl rows) nx d.key hfl hm hes hn hok hk
          have ha : askOk fl rows (madeE fl rows) nx q = true := ask_of hok c2
          have ha2 : askOk fl (putRows rows nx d) (madeE fl (putRows rows nx d)) (nx + 1) q = true := ask_of hI2 c2
          have k1 := findA_ids ha
          have k2 := findA_ids ha2
          have hdo : docOk fl d = true := by
            simp only [canPut, Bool.and_eq_true] at hc; exact hc.1
          have hmd : meetsD fl d q = meetsM fl d q := by rw [meetsD, hdo, c2]; simp
          have l1 := idsP_len hok fun r => meetsM fl r.doc q
          cases cm : meetsM fl d q with
          | false =>
            rw [cm] at hmd
            have kk : (idsP (putRows rows nx d) fun r => meetsM fl r.doc q) = idsP rows fun r => meetsM fl r.doc q := by
              rw [less_app hk, idsP, List.filter_append]
              simp [doc_eta, cm, idsP]
            rw [kk] at k2
            have hS := sdInts_R (idsP rows fun r => meetsM fl r.doc q) (by omega)
            refine go3 rfl ?_; simp only [go_sem, ↓reduceIte, Nat.reduceAdd, Nat.reduceSub, Nat.reduceEqDiff, Nat.reduceLT, Nat.reduceLeDiff, Nat.reduceMul, Int.reduceNeg, Int.reduceToNat, Int.reduceEq, Int.reduceLT, Int.reduceLE, reduceCtorEq, Tryz.f3, h, hh, hr, hr2, hfl, hm, hes, hn, hok, e1, e2, e3, hf1, hI2, hm2, he2, hn3, hq, hd, c2, hmd, k1, k2, hS]
            try decide +kernel
          | true =>
            rw [cm] at hmd
            have kk : (idsP (putRows rows nx d) fun r => meetsM fl r.doc q) = (idsP rows fun r => meetsM fl r.doc q) ++ [nx] := by
              rw [less_app hk, idsP, List.filter_append]
              simp [doc_eta, cm, idsP]
            rw [kk] at k2
            have hS := sdInts_R ((idsP rows fun r => meetsM fl r.doc q) ++ [nx]) (by rw [List.length_append, List.length_singleton]; omega)
            refine go3 rfl ?_; simp only [go_sem, ↓reduceIte, Nat.reduceAdd, Nat.reduceSub, Nat.reduceEqDiff, Nat.reduceLT, Nat.reduceLeDiff, Nat.reduceMul, Int.reduceNeg, Int.reduceToNat, Int.reduceEq, Int.reduceLT, Int.reduceLE, reduceCtorEq, Tryz.f3, h, hh, hr, hr2, hfl, hm, hes, hn, hok, e1, e2, e3, hf1, hI2, hm2, he2, hn3, hq, hd, c2, hmd, k1, k2, hS]
            first | omega | exact ⟨by omega, by decide +kernel⟩
        · obtain ⟨r0, hr0, hk0⟩ : ∃ r ∈ rows, r.doc.key = d.key := by
            rw [keyIx_neg, Bool.not_eq_false, List.any_eq_true] at hk
            obtain ⟨r, h1, h2⟩ := hk
            exact ⟨r, h1, by simpa using h2⟩
          obtain ⟨i, hi, hk1, hx⟩ := key_at hp2 hr0
          rw [hk0] at hk1
          have e3 := implDoc_ok fl rows (madeE fl rows) nx d.key hfl hm hes hn hok i r0 hk1 hx
          refine go3 rfl ?_; simp only [go_sem, ↓reduceIte, Nat.reduceAdd, Nat.reduceSub, Nat.reduceEqDiff, Nat.reduceLT, Nat.reduceLeDiff, Nat.reduceMul, Int.reduceNeg, Int.reduceToNat, Int.reduceEq, Int.reduceLT, Int.reduceLE, reduceCtorEq, Tryz.f3, h, hh, hr, hr2, hfl, hm, hes, hn, hok, e1, e2, e3, hf1, hI2, hm2, he2, hq, c2]
          try decide +kernel
end Go.Proofs.YtdebinbhbdlbaaaGreatDoor.PVE
