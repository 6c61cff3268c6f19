/- What is not looked for; one document more, one less: laws of finding. -/
import Derived.Test.YtdebinbhbdlbaaaGreatDoorT50
set_option linter.unusedVariables false
set_option linter.unusedSimpArgs false
set_option maxRecDepth 100000
namespace Go.Proofs.YtdebinbhbdlbaaaGreatDoor.PVE
open PV Query
theorem notQ_smF {q : Query} (h : q.Sm) : (notQ q).Sm := ⟨_, by show 0 ≤ _; omega, by show 0 ≤ _; omega, by show 1 ≤ _; omega, fun p hp => by simp [notQ, Query.parts] at hp; subst hp; exact h⟩
theorem notQ_parts (q : Query) : (notQ q).parts.map pv = [.agg [.int .i64 q.kind, .str q.field, .str q.text, .int .i64 q.low, .int .i64 q.high, .sl (q.parts.map pv)]] := by rw [show (notQ q).parts = [q] from rfl, List.map_cons, List.map_nil, pv_eq]
theorem implFind_not (fl : List Field) (rows : List DRow) (ents : List Entry) (nx : Int) (q : Query) (hfl : FSm fl) (hr : RowsM rows) (he : EntSm ents) (hn : -9223372036854775807 ≤ nx ∧ nx ≤ 9223372036854775807) (hq : q.Sm) : R S0 19 [.agg [.sl (fl.map Field.pv), .sl (rows.map DRow.pvF), .sl (ents.map Entry.pvF), .int .i64 nx], .agg [.int .i64 9, .str [], .str [], .int .i64 0, .int .i64 0, .sl [.agg [.int .i64 q.kind, .str q.field, .str q.text, .int .i64 q.low, .int .i64 q.high, .sl (q.parts.map pv)]]]] = some ⟨[none, none], .slo 1 ((findA fl rows ents nx (notQ q)).map (.int .i64))⟩ := by
  have := implFind_R fl rows ents nx (notQ q) hfl hr he hn (notQ_smF hq)
  rw [notQ_parts] at this
  exact this
theorem specFits_not (l : List Field) (q : Query) (hl : FSm l) (hq : q.Sm) : R S0 17 [.sl (l.map Field.pv), .agg [.int .i64 9, .str [], .str [], .int .i64 0, .int .i64 0, .sl [.agg [.int .i64 q.kind, .str q.field, .str q.text, .int .i64 q.low, .int .i64 q.high, .sl (q.parts.map pv)]]]] = some ⟨[none, none], .bool (fitsQ l (notQ q))⟩ := by
  have := specQueryFits_R l (notQ q) hl (notQ_smF hq)
  rw [notQ_parts] at this
  exact this
theorem ask_of {fl : List Field} {rows : List DRow} {ents : List Entry} {nx : Int} {q : Query} (h1 : indexOkS fl rows ents nx = true) (h2 : fitsQ fl q = true) : askOk fl rows ents nx q = true := by
  rw [fitsQ] at h2
  rw [askOk, h1, h2]; rfl
theorem meets_not (fl : List Field) (d : Doc) (q : Query) : meetsM fl d (notQ q) = !meetsM fl d q := by rw [notQ, meetsM]; simp [meetsNot]
@[go_sem] theorem FnFindNot_R (b : Str) (hb : b.length ≤ 9223372036854775807) : R S0 6 [.sl (b.map bytePV)] = some ⟨[none], .bool true⟩ := by
  by_cases h : 1048576 < (b.length : Int)
  · refine go6 rfl ?_; simp only [go_sem, ↓reduceIte, Nat.reduceAdd, Nat.reduceSub, Nat.reduceEqDiff, Nat.reduceLT, Nat.reduceLeDiff, Nat.reduceMul, Int.reduceNeg, Int.reduceToNat, Int.reduceEq, Int.reduceLT, Int.reduceLE, reduceCtorEq, Tryz.f6, h]
  obtain ⟨r, hr, fl, rows, ents, nx, q, rfl, hfl, hrs, hes, hn1, hn2, hq⟩ := drawFind_ex b
  have hm := hrs.sm (by omega) (by omega)
  have hn : -9223372036854775807 ≤ nx ∧ nx ≤ 9223372036854775807 := by omega
  have hl8 : (findA fl rows ents nx q).length ≤ 1099511627776 := by have := findA_len (fl := fl) (rows := rows) (ents := ents) (nx := nx) (q := q); omega
  have e1 := specFits_not fl q hfl hq
  have e2 := implFind_not fl rows ents nx q hfl hm hes hn hq
  cases c1 : indexOkS fl rows ents nx with
  | false => refine go6 rfl ?_; simp only [go_sem, ↓reduceIte, Nat.reduceAdd, Nat.reduceSub, Nat.reduceEqDiff, Nat.reduceLT, Nat.reduceLeDiff, Nat.reduceMul, Int.reduceNeg, Int.reduceToNat, Int.reduceEq, Int.reduceLT, Int.reduceLE, reduceCtorEq, Tryz.f6, h, hr, hfl, hm, hes, hn, hq, hl8, c1]
  | true =>
    cases c2 : fitsQ fl (notQ q) with
    | false =>
      rw [c2] at e1
      refine go6 rfl ?_; simp only [go_sem, ↓reduceIte, Nat.reduceAdd, Nat.reduceSub, Nat.reduceEqDiff, Nat.reduceLT, Nat.reduceLeDiff, Nat.reduceMul, Int.reduceNeg, Int.reduceToNat, Int.reduceEq, Int.reduceLT, Int.reduceLE, reduceCtorEq, Tryz.f6, h, hr, hfl, hm, hes, hn, hq, hl8, c1, e1]
    | true =>
      rw [c2] at e1
      obtain ⟨_, _, hp3⟩ := rowsOk_iff.1 (indexOk_parts c1).1
      have hf : fitsQ fl q = true := fitsQ_part c2 (by simp [notQ, Query.parts])
      have k1 := findA_ids (ask_of c1 hf)
      have k2 := findA_ids (ask_of c1 c2)
      have e3 := implFindAll_R fl rows ents nx hfl hm hes hn c1
      have kl1 := idsP_len c1 fun r => meetsM fl r.doc q
      have kl2 := idsP_len c1 fun r => meetsM fl r.doc (notQ q)
      have o1 := idsP_ok c1 fun r => meetsM fl r.doc q
      have o2 := idsP_ok c1 fun r => meetsM fl r.doc (notQ q)
      have kor : uniqI (idsP rows (fun r => meetsM fl r.doc q) ++ idsP rows (fun r => meetsM fl r.doc (notQ q))) = rows.map (·.id) := by
        rw [idsP_or hp3, idsP_congr (q := fun _ => true) fun r _ => by rw [meets_not]; cases meetsM fl r.doc q <;> rfl, idsP, List.filter_eq_self.2 fun _ _ => rfl]
      have kand : ((idsP rows fun r => meetsM fl r.doc q).filter fun n => (idsP rows fun r => meetsM fl r.doc (notQ q)).contains n) = [] := by
        rw [idsP_and hp3, idsP_congr (q := fun _ => false) fun r _ => by rw [meets_not]; cases meetsM fl r.doc q <;> rfl, idsP]
        simp
      rw [k1] at hl8
      rw [k2] at e2
      have s1 := setOr_R _ _ o1 o2 (by omega) (by omega)
      have s2 := setAnd_R _ _ o1 o2 (by omega) (by omega)
      rw [kor] at s1
      rw [kand] at s2
      have hrl : rows.length ≤ 1099511627776 := hm.1
      refine go6 rfl ?_; simp only [go_sem, ↓reduceIte, Nat.reduceAdd, Nat.reduceSub, Nat.reduceEqDiff, Nat.reduceLT, Nat.reduceLeDiff, Nat.reduceMul, Int.reduceNeg, Int.reduceToNat, Int.reduceEq, Int.reduceLT, Int.reduceLE, reduceCtorEq, Tryz.f6, h, hr, hfl, hm, hes, hn, hq, hl8, c1, e1, e2, e3, k1, s1, s2, hrl]
      decide +kernel
end Go.Proofs.YtdebinbhbdlbaaaGreatDoor.PVE
