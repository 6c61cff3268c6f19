/- Sets of what is found; the order of putting in; fields: laws of finding. -/
import Derived.Test.YtdebinbhbdlbaaaGreatDoorT51
import Derived.Test.YtdebinbhbdlbaaaGreatDoorTH
set_option linter.unusedVariables false
set_option linter.unusedSimpArgs false
set_option maxRecDepth 100000
namespace Go.Proofs.YtdebinbhbdlbaaaGreatDoor.PVE
open PV Query
def anyF (q : Query) : Query := .mk q.kind [] q.text q.low q.high q.parts
theorem anyF_sm {q : Query} (h : q.Sm) : (anyF q).Sm := by
  obtain ⟨_, _, ht, hp, hh⟩ := h
  exact ⟨_, by show 0 ≤ _; omega, ht, hp, hh⟩
theorem implFind_any (fl : List Field) (rows : List DRow) (ents : List Entry) (nx : Int) (q : Query) (hfl : FSm fl) (hr : RowsM rows) (he : EntSm ents) (hn : -9223372036854775807 ≤ nx ∧ nx ≤ 9223372036854775807) (hq : q.Sm) : R S0 19 [.agg [.sl (fl.map Field.pv), .sl (rows.map DRow.pvF), .sl (ents.map Entry.pvF), .int .i64 nx], .agg [.int .i64 q.kind, .str [], .str q.text, .int .i64 q.low, .int .i64 q.high, .sl (q.parts.map pv)]] = some ⟨[none, none], .slo 1 ((findA fl rows ents nx (anyF q)).map (.int .i64))⟩ := implFind_R fl rows ents nx (anyF q) hfl hr he hn (anyF_sm hq)
theorem leafOk_any {q : Query} (hk : q.kind = 2 ∨ q.kind = 3 ∨ q.kind = 4) (h : leafOk q = true) : leafOk (anyF q) = true := by
  have e1 : (anyF q).kind = q.kind := rfl
  have e2 : (anyF q).text = q.text := rfl
  have e3 : (anyF q).low = q.low := rfl
  have e4 : (anyF q).high = q.high := rfl
  have e5 : (anyF q).field = [] := rfl
  unfold leafOk at h ⊢
  rw [e1, e2, e3, e4, e5]
  generalize q.kind = k at *
  rcases hk with rfl | rfl | rfl
  · simp only [Int.reduceEq, if_false, if_true, Bool.and_eq_true, decide_true, Bool.true_or, true_and] at h ⊢
    exact ⟨⟨h.1.1.2, h.1.2⟩, h.2⟩
  · simp only [Int.reduceEq, if_false, if_true, Bool.and_eq_true, decide_true, Bool.true_or, true_and] at h ⊢
    exact ⟨h.1.2, h.2⟩
  · simp only [Int.reduceEq, if_false, if_true, Bool.and_eq_true, decide_true, Bool.true_or, true_and] at h ⊢
    exact ⟨⟨⟨h.1.1.1.2, h.1.1.2⟩, h.1.2⟩, h.2⟩
theorem anyF_fits {fl : List Field} {q : Query} (hk : q.kind = 2 ∨ q.kind = 3 ∨ q.kind = 4) (h : (fieldsOk fl && okQ 4 q && fitsI fl q) = true) : (fieldsOk fl && okQ 4 (anyF q) && fitsI fl (anyF q)) = true := by
  simp only [Bool.and_eq_true] at h ⊢
  obtain ⟨⟨h1, h2⟩, h3⟩ := h
  refine ⟨⟨h1, ?_⟩, ?_⟩
  · rw [okQ, Bool.and_eq_true] at h2 ⊢
    refine ⟨?_, h2.2⟩
    have h2 := h2.1
    by_cases hp : q.parts = []
    · rw [nodeOk, if_pos hp] at h2
      rw [nodeOk, if_pos (by exact hp)]
      exact leafOk_any hk h2
    · rw [nodeOk, if_neg hp] at h2
      have n7 : ¬ q.kind = 7 := by omega
      have n8 : ¬ q.kind = 8 := by omega
      have n9 : ¬ q.kind = 9 := by omega
      simp [n7, n8, n9] at h2
  · obtain ⟨k, f, t, lo, hi, p⟩ := q
    simp only [Query.kind] at hk
    change fitsI fl (.mk k [] t lo hi p) = true
    have hk2 : 2 ≤ k ∧ k ≤ 6 := by omega
    rw [fitsI, if_pos hk2, nodeF, if_pos (by simpa [Query.kind] using hk)]
    simp [Query.field]
theorem anyF_meets {fl : List Field} {d : Doc} {q : Query} (hk : q.kind = 2 ∨ q.kind = 3 ∨ q.kind = 4) (h : meetsM fl d q = true) : meetsM fl d (anyF q) = true := by
  have e : ∀ q : Query, q.kind = 2 ∨ q.kind = 3 ∨ q.kind = 4 → meetsM fl d q = decide (0 < weightN fl d q) := fun q hk => by
    rw [meetsM_eq, if_neg (by omega), if_neg (by omega), if_neg (by omega), leafM, if_neg (by omega), if_neg (by omega), if_neg (by omega)]
  have hs : ∀ cs : List Cell, (cs.map (cellW fl q)).sum ≤ (cs.map (cellW fl (anyF q))).sum := fun cs => by
    induction cs with
    | nil => exact Nat.le_refl _
    | cons c cs ih =>
      have h1 : cellW fl q c ≤ cellW fl (anyF q) c := by
        have ht : timesN (anyF q) c.text = timesN q c.text := by cases q; rfl
        by_cases hl : looksAt fl q c = true
        · have hl2 : looksAt fl (anyF q) c = true := by
            simp only [looksAt, Bool.and_eq_true] at hl ⊢
            exact ⟨hl.1, by simp [anyF, Query.field]⟩
          rw [cellW, cellW, if_pos hl, if_pos hl2, ht]
          exact Nat.le_refl _
        · rw [cellW, if_neg hl]; exact Nat.zero_le _
      simp only [List.map_cons, List.sum_cons]
      omega
  rw [e q hk, decide_eq_true_eq, weightN] at h
  rw [e (anyF q) hk, decide_eq_true_eq, weightN]
  have := hs d.cells
  omega
@[go_sem] theorem FnFindField_R (b : Str) (hb : b.length ≤ 9223372036854775807) : R S0 8 [.sl (b.map bytePV)] = some ⟨[none], .bool true⟩ := by
  by_cases h : 1048576 < (b.length : Int)
  · refine go8 rfl ?_; simp only [go_sem, ↓reduceIte, Nat.reduceAdd, Nat.reduceSub, Nat.reduceEqDiff, Nat.reduceLT, Nat.reduceLeDiff, Nat.reduceMul, Int.reduceNeg, Int.reduceToNat, Int.reduceEq, Int.reduceLT, Int.reduceLE, reduceCtorEq, Tryz.f8, h]
  obtain ⟨r, hr, fl, rows, ents, nx, q, rfl, hfl, hrs, hes, hn1, hn2, hq⟩ := drawFind_ex b
  have hm := hrs.sm (by omega) (by omega)
  have hn : -9223372036854775807 ≤ nx ∧ nx ≤ 9223372036854775807 := by omega
  have hl8 : (findA fl rows ents nx q).length ≤ 1099511627776 := by have := findA_len (fl := fl) (rows := rows) (ents := ents) (nx := nx) (q := q); omega
  cases c1 : indexOkS fl rows ents nx with
  | false => refine go8 rfl ?_; simp only [go_sem, ↓reduceIte, Nat.reduceAdd, Nat.reduceSub, Nat.reduceEqDiff, Nat.reduceLT, Nat.reduceLeDiff, Nat.reduceMul, Int.reduceNeg, Int.reduceToNat, Int.reduceEq, Int.reduceLT, Int.reduceLE, reduceCtorEq, Tryz.f8, h, hr, hfl, hm, hes, hn, hq, hl8, c1]
  | true =>
    cases c2 : (fieldsOk fl && okQ 4 q && fitsI fl q) with
    | false => refine go8 rfl ?_; simp only [go_sem, ↓reduceIte, Nat.reduceAdd, Nat.reduceSub, Nat.reduceEqDiff, Nat.reduceLT, Nat.reduceLeDiff, Nat.reduceMul, Int.reduceNeg, Int.reduceToNat, Int.reduceEq, Int.reduceLT, Int.reduceLE, reduceCtorEq, Tryz.f8, h, hr, hfl, hm, hes, hn, hq, hl8, c1, c2]
    | true =>
      obtain ⟨_, _, hp3⟩ := rowsOk_iff.1 (indexOk_parts c1).1
      have e1 := implFind_any fl rows ents nx q hfl hm hes hn hq
      have main : (q.kind = 2 ∨ q.kind = 3 ∨ q.kind = 4) → R S0 25 [.sl ((findA fl rows ents nx q).map (.int .i64)), .sl ((findA fl rows ents nx (anyF q)).map (.int .i64))] = some ⟨[none, none], .slo 1 []⟩ := by
        intro hk
        have k1 := findA_ids (ask_of c1 c2)
        have k2 := findA_ids (ask_of c1 (anyF_fits hk c2))
        have l1 := idsP_len c1 fun r => meetsM fl r.doc q
        have l2 := idsP_len c1 fun r => meetsM fl r.doc (anyF q)
        have s := setLess_R _ _ (idsP_ok c1 fun r => meetsM fl r.doc q) (idsP_ok c1 fun r => meetsM fl r.doc (anyF q)) (by omega) (by omega)
        have kk : ((idsP rows fun r => meetsM fl r.doc q).filter fun n => !(idsP rows fun r => meetsM fl r.doc (anyF q)).contains n) = [] := by
          rw [idsP_less hp3, idsP_congr (q := fun _ => false) fun r _ => by cases c : meetsM fl r.doc q with | false => rfl | true => rw [anyF_meets hk c]; rfl, idsP]
          simp
        rw [kk] at s
        rw [k1, k2]
        exact s
      by_cases k2 : q.kind = 2
      · have e2 := main (.inl k2)
        refine go8 rfl ?_; simp only [go_sem, ↓reduceIte, Nat.reduceAdd, Nat.reduceSub, Nat.reduceEqDiff, Nat.reduceLT, Nat.reduceLeDiff, Nat.reduceMul, Int.reduceNeg, Int.reduceToNat, Int.reduceEq, Int.reduceLT, Int.reduceLE, reduceCtorEq, Tryz.f8, h, hr, hfl, hm, hes, hn, hq, hl8, c1, c2, eq_true k2, e1, e2]
      by_cases k3 : q.kind = 3
      · have e2 := main (.inr (.inl k3))
        refine go8 rfl ?_; simp only [go_sem, ↓reduceIte, Nat.reduceAdd, Nat.reduceSub, Nat.reduceEqDiff, Nat.reduceLT, Nat.reduceLeDiff, Nat.reduceMul, Int.reduceNeg, Int.reduceToNat, Int.reduceEq, Int.reduceLT, Int.reduceLE, reduceCtorEq, Tryz.f8, h, hr, hfl, hm, hes, hn, hq, hl8, c1, c2, k2, eq_true k3, e1, e2]
      by_cases k4 : q.kind = 4
      · have e2 := main (.inr (.inr k4))
        refine go8 rfl ?_; simp only [go_sem, ↓reduceIte, Nat.reduceAdd, Nat.reduceSub, Nat.reduceEqDiff, Nat.reduceLT, Nat.reduceLeDiff, Nat.reduceMul, Int.reduceNeg, Int.reduceToNat, Int.reduceEq, Int.reduceLT, Int.reduceLE, reduceCtorEq, Tryz.f8, h, hr, hfl, hm, hes, hn, hq, hl8, c1, c2, k2, k3, eq_true k4, e1, e2]
      · refine go8 rfl ?_; simp only [go_sem, ↓reduceIte, Nat.reduceAdd, Nat.reduceSub, Nat.reduceEqDiff, Nat.reduceLT, Nat.reduceLeDiff, Nat.reduceMul, Int.reduceNeg, Int.reduceToNat, Int.reduceEq, Int.reduceLT, Int.reduceLE, reduceCtorEq, Tryz.f8, h, hr, hfl, hm, hes, hn, hq, hl8, c1, c2, k2, k3, k4]
end Go.Proofs.YtdebinbhbdlbaaaGreatDoor.PVE
