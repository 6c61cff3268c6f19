/- Sets of what is found; the order of putting in; fields: laws of finding. -/
import Derived.Test.YtdebinbhbdlbaaaGreatDoorT51
import Derived.Test.YtdebinbhbdlbaaaGreatDoorTH
set_option linter.unusedVariables false
set_option linter.unusedSimpArgs false
set_option maxRecDepth 100000
namespace Go.Proofs.YtdebinbhbdlbaaaGreatDoor.PVE
open PV Query
theorem implPut_any (fl : List Field) (rows : List DRow) (nx : Int) (d : Doc) (hfl : FSm fl) (hr : RowsM rows) (he : EntSm (madeE fl rows)) (hn : -9223372036854775807 ≤ nx ∧ nx ≤ 9223372036854775807) (hd : DSm d) (h : indexOkS fl rows (madeE fl rows) nx = true) : ∃ rows2 : List DRow, ∃ nx2 id2 : Int, ∃ ok2 : Bool, R S0 13 [.agg [.sl (fl.map Field.pv), .sl (rows.map DRow.pvF), .sl ((madeE fl rows).map Entry.pvF), .int .i64 nx], .agg [.str d.key, .sl (d.cells.map Cell.pv)]] = some ⟨[none, none], .tup [.agg [.sl (fl.map Field.pv), .sl (rows2.map DRow.pvF), .sl ((madeE fl rows2).map Entry.pvF), .int .i64 nx2], .int .i64 id2, .bool ok2]⟩ ∧ indexOkS fl rows2 (madeE fl rows2) nx2 = true ∧ (ok2 = true → canPut fl rows nx d = true ∧ rows2 = putRows rows nx d ∧ nx2 = nx + 1) ∧ nx2 ≤ nx + 1 ∧ nx ≤ nx2 := by
  cases hc : canPut fl rows nx d with
  | false => exact ⟨_, _, _, _, implPut_none fl rows (madeE fl rows) nx d hfl hr he hn hd h hc, h, (fun c => by cases c), by omega, by omega⟩
  | true => exact ⟨_, _, _, _, implPut_ok fl rows (madeE fl rows) nx d hfl hr he hn hd h hc, putOk h hc, fun _ => ⟨rfl, rfl, rfl⟩, by omega, by omega⟩
def keysP (rows : List DRow) (p : DRow → Bool) : List Str := (rows.filter p).map (·.doc.key)
theorem keysS_find {fl : List Field} {rows : List DRow} {ents : List Entry} {nx : Int} {q : Query} (h : askOk fl rows ents nx q = true) : keysS fl rows ents nx (findA fl rows ents nx q) = keysP rows fun r => meetsM fl r.doc q := by
  obtain ⟨h1, _, _⟩ := ask_parts h
  obtain ⟨_, _, hp3⟩ := rowsOk_iff.1 (indexOk_parts h1).1
  rw [keysS, if_pos h1, findA_ids h, keysP]
  congr 1
  exact List.filter_congr fun r hr => by rw [idsP, ids_contains hp3 hr]
theorem keysP_mem {rows : List DRow} {fl : List Field} {q : Query} {k : Str} : k ∈ keysP rows (fun r => meetsM fl r.doc q) ↔ ∃ t, (∃ r ∈ rows, r.doc = t) ∧ meetsM fl t q = true ∧ t.key = k := by
  rw [keysP, List.mem_map]
  constructor
  · rintro ⟨r, h1, h2⟩
    exact ⟨r.doc, ⟨r, (List.mem_filter.1 h1).1, rfl⟩, (List.mem_filter.1 h1).2, h2⟩
  · rintro ⟨t, ⟨r, h1, rfl⟩, h2, h3⟩
    exact ⟨r, List.mem_filter.2 ⟨h1, h2⟩, h3⟩
theorem keysP_nodup {rows : List DRow} (h : rows.Pairwise (fun a b => a.doc.key ≠ b.doc.key)) (p : DRow → Bool) : (keysP rows p).Nodup := List.pairwise_map.2 (h.sublist List.filter_sublist)
theorem keysP_len (rows : List DRow) (p : DRow → Bool) : (keysP rows p).length ≤ rows.length := by
  rw [keysP, List.length_map]; exact List.length_filter_le _ _
theorem putDocs {rows : List DRow} {nx : Int} {d t : Doc} : (∃ r ∈ putRows rows nx d, r.doc = t) ↔ ((∃ r ∈ rows, r.doc = t) ∧ t.key ≠ d.key) ∨ t = d := by
  rw [putRows]
  constructor
  · rintro ⟨r, hr, rfl⟩
    rcases List.mem_append.1 hr with hr | hr
    · obtain ⟨h1, h2⟩ := List.mem_filter.1 hr
      exact .inl ⟨⟨r, h1, rfl⟩, by simpa using h2⟩
    · simp only [List.mem_singleton] at hr
      subst hr; exact .inr (doc_eta d)
  · rintro (⟨⟨r, h1, rfl⟩, h2⟩ | rfl)
    · exact ⟨r, List.mem_append_left _ (List.mem_filter.2 ⟨h1, by simpa using h2⟩), rfl⟩
    · exact ⟨_, List.mem_append_right _ (List.mem_singleton.2 rfl), doc_eta _⟩
theorem putDocs2 {rows : List DRow} {a b c d2 : Int} {d e : Doc} (hde : d.key ≠ e.key) (t : Doc) : (∃ r ∈ putRows (putRows rows a d) b e, r.doc = t) ↔ (∃ r ∈ putRows (putRows rows c e) d2 d, r.doc = t) := by
  rw [putDocs, putDocs, putDocs, putDocs]
  constructor
  · rintro (⟨⟨h1, h2⟩ | rfl, h3⟩ | rfl)
    · exact .inl ⟨.inl ⟨h1, h3⟩, h2⟩
    · exact .inr rfl
    · exact .inl ⟨.inr rfl, fun c => hde c.symm⟩
  · rintro (⟨⟨h1, h2⟩ | rfl, h3⟩ | rfl)
    · exact .inl ⟨.inl ⟨h1, h3⟩, h2⟩
    · exact .inr rfl
    · exact .inl ⟨.inr rfl, hde⟩
@[go_sem] theorem sdHas_R (l : List Str) (s : Str) (hl : l.length ≤ 1099511627776) : R S0 27 [.sl (l.map .str), .str s] = some ⟨[none, none], .bool (l.contains s)⟩ := by
  refine go27 rfl ?_; simp only [go_sem, ↓reduceIte, Nat.reduceAdd, Nat.reduceSub, Nat.reduceEqDiff, Nat.reduceLT, Nat.reduceLeDiff, Nat.reduceMul, Int.reduceNeg, Int.reduceToNat, Int.reduceEq, Int.reduceLT, Int.reduceLE, reduceCtorEq, Tryz.f27]
  refine ends_for l.length (by omega) (fun i _ => mkSt [(0, .sl (l.map .str)), (1, .str s), (5, .int .i64 i)] []) (fun i _ => s ∉ l.take i) 0 () (by omega) (by simp) ?_ ?_
  · intro i _ hi hI hw ih
    obtain ⟨x, hx, hg, hd⟩ := drop_get hi default
    have hlx : l = l.take i ++ x :: l.drop (i + 1) := by rw [← hd, List.take_append_drop]
    by_cases h : x = s
    · have h1 : l.contains s = true := by rw [hlx, h]; simp
      simp only [go_sem, ↓reduceIte, Nat.reduceAdd, Nat.reduceSub, Nat.reduceEqDiff, Nat.reduceLT, Nat.reduceLeDiff, Nat.reduceMul, Int.reduceNeg, Int.reduceToNat, Int.reduceEq, Int.reduceLT, Int.reduceLE, reduceCtorEq, hi, hw, hg, h, h1]
    · have ih' := ih () (by rw [List.take_add_one, hx]; simp [hI, Ne.symm h])
      simp only [go_sem, ↓reduceIte, Nat.reduceAdd, Nat.reduceSub, Nat.reduceEqDiff, Nat.reduceLT, Nat.reduceLeDiff, Nat.reduceMul, Int.reduceNeg, Int.reduceToNat, Int.reduceEq, Int.reduceLT, Int.reduceLE, reduceCtorEq, hi, hw, hg, h]
      exact ih'
  · intro _ hI
    have h1 : l.contains s = false := by simp at hI; simp [hI]
    simp only [go_sem, ↓reduceIte, Nat.reduceAdd, Nat.reduceSub, Nat.reduceEqDiff, Nat.reduceLT, Nat.reduceLeDiff, Nat.reduceMul, Int.reduceNeg, Int.reduceToNat, Int.reduceEq, Int.reduceLT, Int.reduceLE, reduceCtorEq, h1]
@[go_sem] theorem FnIndexOrder_R (b c : Str) (hb : b.length ≤ 9223372036854775807) (hc : c.length ≤ 9223372036854775807) : R S0 5 [.sl (b.map bytePV), .sl (c.map bytePV)] = some ⟨[none, none], .bool true⟩ := by
  by_cases h : 1048576 < (b.length : Int)
  · refine go5 rfl ?_; simp only [go_sem, ↓reduceIte, Nat.reduceAdd, Nat.reduceSub, Nat.reduceEqDiff, Nat.reduceLT, Nat.reduceLeDiff, Nat.reduceMul, Int.reduceNeg, Int.reduceToNat, Int.reduceEq, Int.reduceLT, Int.reduceLE, reduceCtorEq, Tryz.f5, h]
  by_cases hh : 1048576 < (c.length : Int)
  · refine go5 rfl ?_; simp only [go_sem, ↓reduceIte, Nat.reduceAdd, Nat.reduceSub, Nat.reduceEqDiff, Nat.reduceLT, Nat.reduceLeDiff, Nat.reduceMul, Int.reduceNeg, Int.reduceToNat, Int.reduceEq, Int.reduceLT, Int.reduceLE, reduceCtorEq, Tryz.f5, h, hh]
  obtain ⟨r, hr, fl, rows, ents, nx, d, rfl, hfl, hrs, hes, hn1, hn2, hds⟩ := drawIndexPut_ex b
  obtain ⟨r1, hr1, fl1, rows1, ents1, nx1, e, rfl, _, _, _, _, _, hdse⟩ := drawIndexPut_ex c
  obtain ⟨r2, hr2, fl2, rows2, ents2, nx2, q, rfl, hfl2, hrs2, hes2, hn12, hn22, hq⟩ := drawFind_ex c
  have hd := hds.sm (by omega)
  have hde := hdse.sm (by omega)
  have hm := hrs.sm (by omega) (by omega)
  have hn : -9223372036854775807 ≤ nx ∧ nx ≤ 9223372036854775807 := by omega
  have hf1 : fl.length ≤ 1099511627776 := hfl.1
  cases hok : indexOkS fl rows ents nx with
  | false =>
    have e1 := implPut_bad fl rows ents nx d hfl hm hes hn hd hok
    have e2 := specPut_bad fl rows ents nx d hfl hm hes hn hd hok
    refine go5 rfl ?_; simp only [go_sem, ↓reduceIte, Nat.reduceAdd, Nat.reduceSub, Nat.reduceEqDiff, Nat.reduceLT, Nat.reduceLeDiff, Nat.reduceMul, Int.reduceNeg, Int.reduceToNat, Int.reduceEq, Int.reduceLT, Int.reduceLE, reduceCtorEq, Tryz.f5, h, hh, hr, hr1, hr2, hfl, hm, hes, hn, hok, e1, e2, sdIndex0_R]
    try decide +kernel
  | true =>
    obtain ⟨ho1, ho2, ho3, ho4, rfl⟩ := indexOk_parts hok
    cases hcp : canPut fl rows nx d with
    | false =>
      have e1 := implPut_none fl rows (madeE fl rows) nx d hfl hm hes hn hd hok hcp
      have e2 := specPut_none fl rows (madeE fl rows) nx d hfl hm hes hn hd hok hcp
      refine go5 rfl ?_; simp only [go_sem, ↓reduceIte, Nat.reduceAdd, Nat.reduceSub, Nat.reduceEqDiff, Nat.reduceLT, Nat.reduceLeDiff, Nat.reduceMul, Int.reduceNeg, Int.reduceToNat, Int.reduceEq, Int.reduceLT, Int.reduceLE, reduceCtorEq, Tryz.f5, h, hh, hr, hr1, hr2, hfl, hm, hes, hn, hok, e1, e2, hf1]
      try decide +kernel
    | true =>
      have hI2 := putOk hok hcp
      have st2 := indexOk_st hI2
      have hm2 := st2.sm (by omega) (by omega)
      have he2 := made_sm fl (st2.st (by omega) (by omega))
      have e1 := implPut_ok fl rows (madeE fl rows) nx d hfl hm hes hn hd hok hcp
      have e2 := specPut_ok fl rows (madeE fl rows) nx d hfl hm hes hn hd hok hcp
      have hn3 : -9223372036854775807 ≤ nx + 1 ∧ nx + 1 ≤ 9223372036854775807 := by omega
      by_cases hkk : d.key = e.key
      · refine go5 rfl ?_; simp only [go_sem, ↓reduceIte, Nat.reduceAdd, Nat.reduceSub, Nat.reduceEqDiff, Nat.reduceLT, Nat.reduceLeDiff, Nat.reduceMul, Int.reduceNeg, Int.reduceToNat, Int.reduceEq, Int.reduceLT, Int.reduceLE, reduceCtorEq, Tryz.f5, h, hh, hr, hr1, hr2, hfl, hm, hes, hn, hok, e1, e2, hf1, hI2, hm2, he2, hq, eq_true hkk]
        try decide +kernel
      cases c2 : (fieldsOk fl && okQ 4 q && fitsI fl q) with
      | false =>
        refine go5 rfl ?_; simp only [go_sem, ↓reduceIte, Nat.reduceAdd, Nat.reduceSub, Nat.reduceEqDiff, Nat.reduceLT, Nat.reduceLeDiff, Nat.reduceMul, Int.reduceNeg, Int.reduceToNat, Int.reduceEq, Int.reduceLT, Int.reduceLE, reduceCtorEq, Tryz.f5, h, hh, hr, hr1, hr2, hfl, hm, hes, hn, hok, e1, e2, hf1, hI2, hm2, he2, hq, hkk, c2]
        try decide +kernel
      | true =>
        obtain ⟨rA, nA, iA, oA, eA, hIA, hA, hA1, hA2⟩ := implPut_any fl (putRows rows nx d) (nx + 1) e hfl hm2 he2 hn3 hde hI2
        obtain ⟨rB, nB, iB, oB, eB, hIB, hB, hB1, hB2⟩ := implPut_any fl rows nx e hfl hm hes hn hde hok
        have stB := indexOk_st hIB
        have hmB := stB.sm (by omega) (by omega)
        have heB := made_sm fl (stB.st (by omega) (by omega))
        have hnB : -9223372036854775807 ≤ nB ∧ nB ≤ 9223372036854775807 := by omega
        obtain ⟨rC, nC, iC, oC, eC, hIC, hC, hC1, hC2⟩ := implPut_any fl rB nB d hfl hmB heB hnB hd hIB
        have stA := indexOk_st hIA
        have hmA := stA.sm (by omega) (by omega)
        have heA := made_sm fl (stA.st (by omega) (by omega))
        have stC := indexOk_st hIC
        have hmC := stC.sm (by omega) (by omega)
        have heC := made_sm fl (stC.st (by omega) (by omega))
        have hnA : -9223372036854775807 ≤ nA ∧ nA ≤ 9223372036854775807 := by omega
        have hnC : -9223372036854775807 ≤ nC ∧ nC ≤ 9223372036854775807 := by omega
        cases oA with
        | false => refine go5 rfl ?_; simp only [go_sem, ↓reduceIte, Nat.reduceAdd, Nat.reduceSub, Nat.reduceEqDiff, Nat.reduceLT, Nat.reduceLeDiff, Nat.reduceMul, Int.reduceNeg, Int.reduceToNat, Int.reduceEq, Int.reduceLT, Int.reduceLE, reduceCtorEq, Tryz.f5, h, hh, hr, hr1, hr2, hfl, hm, hes, hn, hok, e1, e2, hf1, hI2, hm2, he2, hq, hkk, c2, eA, eB, eC]; try decide +kernel
        | true =>
        cases oB with
        | false => refine go5 rfl ?_; simp only [go_sem, ↓reduceIte, Nat.reduceAdd, Nat.reduceSub, Nat.reduceEqDiff, Nat.reduceLT, Nat.reduceLeDiff, Nat.reduceMul, Int.reduceNeg, Int.reduceToNat, Int.reduceEq, Int.reduceLT, Int.reduceLE, reduceCtorEq, Tryz.f5, h, hh, hr, hr1, hr2, hfl, hm, hes, hn, hok, e1, e2, hf1, hI2, hm2, he2, hq, hkk, c2, eA, eB, eC]; try decide +kernel
        | true =>
        cases oC with
        | false => refine go5 rfl ?_; simp only [go_sem, ↓reduceIte, Nat.reduceAdd, Nat.reduceSub, Nat.reduceEqDiff, Nat.reduceLT, Nat.reduceLeDiff, Nat.reduceMul, Int.reduceNeg, Int.reduceToNat, Int.reduceEq, Int.reduceLT, Int.reduceLE, reduceCtorEq, Tryz.f5, h, hh, hr, hr1, hr2, hfl, hm, hes, hn, hok, e1, e2, hf1, hI2, hm2, he2, hq, hkk, c2, eA, eB, eC]; try decide +kernel
        | true =>
          obtain ⟨_, tA, _⟩ := hA rfl
          obtain ⟨_, tB, _⟩ := hB rfl
          obtain ⟨_, tC, _⟩ := hC rfl
          have hdoc : ∀ t, (∃ r ∈ rA, r.doc = t) ↔ (∃ r ∈ rC, r.doc = t) := fun t => by rw [tA, tC, tB]; exact putDocs2 hkk t
          have hlen : (madeE fl rA).length = (madeE fl rC).length := madeE_len hdoc
          have aA : askOk fl rA (madeE fl rA) nA q = true := ask_of hIA c2
          have aC : askOk fl rC (madeE fl rC) nC q = true := ask_of hIC c2
          have fA := keysS_find aA
          have fC := keysS_find aC
          have lA := findA_len (fl := fl) (rows := rA) (ents := madeE fl rA) (nx := nA) (q := q)
          have lC := findA_len (fl := fl) (rows := rC) (ents := madeE fl rC) (nx := nC) (q := q)
          have lA' : (findA fl rA (madeE fl rA) nA q).length ≤ 1099511627776 := by omega
          have lC' : (findA fl rC (madeE fl rC) nC q).length ≤ 1099511627776 := by omega
          refine go5 rfl ?_; simp only [go_sem, ↓reduceIte, Nat.reduceAdd, Nat.reduceSub, Nat.reduceEqDiff, Nat.reduceLT, Nat.reduceLeDiff, Nat.reduceMul, Int.reduceNeg, Int.reduceToNat, Int.reduceEq, Int.reduceLT, Int.reduceLE, reduceCtorEq, Tryz.f5, h, hh, hr, hr1, hr2, hfl, hm, hes, hn, hok, e1, e2, hf1, hI2, hm2, he2, hq, hkk, c2, eA, eB, eC, hmA, heA, hmC, heC, hnA, hnC, fA, fC, lA', lC']
          have nA2 : (keysP rA fun r => meetsM fl r.doc q).length ≤ 1099511627776 := by have := keysP_len rA fun r => meetsM fl r.doc q; have := stA.1; omega
          have nC2 : (keysP rC fun r => meetsM fl r.doc q).length ≤ 1099511627776 := by have := keysP_len rC fun r => meetsM fl r.doc q; have := stC.1; omega
          have hmem : ∀ k, k ∈ keysP rA (fun r => meetsM fl r.doc q) ↔ k ∈ keysP rC (fun r => meetsM fl r.doc q) := fun k => by
            rw [keysP_mem, keysP_mem]
            constructor
            · rintro ⟨t, h1, h2⟩; exact ⟨t, (hdoc t).1 h1, h2⟩
            · rintro ⟨t, h1, h2⟩; exact ⟨t, (hdoc t).2 h1, h2⟩
          have nd1 := keysP_nodup (rowsOk_iff.1 (indexOk_parts hIA).1).2.1 fun r => meetsM fl r.doc q
          have nd2 := keysP_nodup (rowsOk_iff.1 (indexOk_parts hIC).1).2.1 fun r => meetsM fl r.doc q
          have hkl : ((keysP rA fun r => meetsM fl r.doc q).length : Int) = ((keysP rC fun r => meetsM fl r.doc q).length : Int) := by
            have h1 := nodup_le nd1 fun x hx => (hmem x).1 hx
            have h2 := nodup_le nd2 fun x hx => (hmem x).2 hx
            omega
          have hlen' : ((madeE fl rA).length : Int) = ((madeE fl rC).length : Int) := by omega
          refine ⟨by decide +kernel, by decide +kernel, ?_⟩
          generalize keysP rA (fun r => meetsM fl r.doc q) = L at *
          generalize keysP rC (fun r => meetsM fl r.doc q) = M at *
          refine ends_for L.length (by omega) (fun i _ => mkSt [(17, .addr 0 0 0), (23, .addr 1 0 0), (26, .own 2), (27, .own 3), (28, .int .i64 i)] [.pto [.sl (fl.map Field.pv), .sl (rA.map DRow.pvF), .sl ((madeE fl rA).map Entry.pvF), .int .i64 nA], .pto [.sl (fl.map Field.pv), .sl (rC.map DRow.pvF), .sl ((madeE fl rC).map Entry.pvF), .int .i64 nC], .slo 1 (L.map .str), .slo 1 (M.map .str)]) (fun _ _ => True) 0 () (by omega) trivial ?_ ?_
          · rintro i _ hi - hw ih
            obtain ⟨x, hx, hg, _⟩ := drop_get hi default
            have ih' := ih () trivial
            have hc1 : M.contains x = true := by
              rw [List.contains_eq_mem, decide_eq_true_eq]; exact (hmem x).1 (List.mem_of_getElem? hx)
            simp only [go_sem, ↓reduceIte, Nat.reduceAdd, Nat.reduceSub, Nat.reduceEqDiff, Nat.reduceLT, Nat.reduceLeDiff, Nat.reduceMul, Int.reduceNeg, Int.reduceToNat, Int.reduceEq, Int.reduceLT, Int.reduceLE, reduceCtorEq, hi, hw, hg, hx, hc1, nC2]
            exact ih'
          · rintro _ -
            simp only [go_sem, ↓reduceIte, Nat.reduceAdd, Nat.reduceSub, Nat.reduceEqDiff, Nat.reduceLT, Nat.reduceLeDiff, Nat.reduceMul, Int.reduceNeg, Int.reduceToNat, Int.reduceEq, Int.reduceLT, Int.reduceLE, reduceCtorEq, hkl, hlen']
end Go.Proofs.YtdebinbhbdlbaaaGreatDoor.PVE
