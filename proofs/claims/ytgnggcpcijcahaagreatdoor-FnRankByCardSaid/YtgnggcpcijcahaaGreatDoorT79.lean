/- Documents by a number: the law of their order. -/
import Derived.Test.YtgnggcpcijcahaaGreatDoorT69
set_option linter.unusedVariables false
set_option linter.unusedSimpArgs false
set_option maxRecDepth 100000
namespace Go.Proofs.YtgnggcpcijcahaaGreatDoor.PVE
open PV Query
def wth (m : Nat) : Nat → Bool
  | 0 => true
  | i + 1 => decide (i < m)
def lst (L : List Hit) : Nat → Int
  | 0 => 0
  | i + 1 => (L.getD i default).score
@[go_sem] theorem FnRankBy_R (b : Str) (hb : b.length ≤ 9223372036854775807) : R S0 7 [.sl (b.map bytePV)] = some ⟨[none], .bool true⟩ := by
  by_cases h : 1048576 < (b.length : Int)
  · refine go7 rfl ?_; simp only [go_sem, ↓reduceIte, Nat.reduceAdd, Nat.reduceSub, Nat.reduceEqDiff, Nat.reduceLT, Nat.reduceLeDiff, Nat.reduceMul, Int.reduceNeg, Int.reduceToNat, Int.reduceEq, Int.reduceLT, Int.reduceLE, reduceCtorEq, Tryz.f7, h]
  obtain ⟨r, hr, fl, rows, ents, nx, q, f, down, rfl, hfl, hrs, hes, hn1, hn2, hq⟩ := drawRankBy_ex b
  have hm := hrs.sm (by omega) (by omega)
  have hn : -9223372036854775808 ≤ nx ∧ nx ≤ 9223372036854775807 := by omega
  obtain ⟨hfl1, _⟩ := id hfl
  have e1 := implRankBy_R fl rows ents nx q f down hfl hm hes hn hq
  have e2 := specRankBy_R fl rows ents nx q f down hfl hm hes hn hq
  have e3 := implRankBy_R fl rows ents nx q f (!down) hfl hm hes hn hq
  have l1 := rankByS_len fl rows ents nx q f down
  have lA : (rankByS fl rows ents nx q f down).length ≤ 1099511627776 := by omega
  have hl8 : (findA fl rows ents nx q).length ≤ 1099511627776 := by have := findA_len (fl := fl) (rows := rows) (ents := ents) (nx := nx) (q := q); omega
  cases c1 : indexOkS fl rows ents nx with
  | false => refine go7 rfl ?_; simp only [go_sem, ↓reduceIte, Nat.reduceAdd, Nat.reduceSub, Nat.reduceEqDiff, Nat.reduceLT, Nat.reduceLeDiff, Nat.reduceMul, Int.reduceNeg, Int.reduceToNat, Int.reduceEq, Int.reduceLT, Int.reduceLE, reduceCtorEq, Tryz.f7, h, hr, hfl, hfl1, hm, hes, hn, hq, e1, e2, lA, c1]
  | true =>
  cases c2 : (fieldsOk fl && okQ 4 q && fitsI fl q) with
  | false => refine go7 rfl ?_; simp only [go_sem, ↓reduceIte, Nat.reduceAdd, Nat.reduceSub, Nat.reduceEqDiff, Nat.reduceLT, Nat.reduceLeDiff, Nat.reduceMul, Int.reduceNeg, Int.reduceToNat, Int.reduceEq, Int.reduceLT, Int.reduceLE, reduceCtorEq, Tryz.f7, h, hr, hfl, hfl1, hm, hes, hn, hq, e1, e2, lA, c1, c2]
  | true =>
  by_cases ck : (fieldOf fl f).kind = 2
  case neg => refine go7 rfl ?_; simp only [go_sem, ↓reduceIte, Nat.reduceAdd, Nat.reduceSub, Nat.reduceEqDiff, Nat.reduceLT, Nat.reduceLeDiff, Nat.reduceMul, Int.reduceNeg, Int.reduceToNat, Int.reduceEq, Int.reduceLT, Int.reduceLE, reduceCtorEq, Tryz.f7, h, hr, hfl, hfl1, hm, hes, hn, hq, e1, e2, lA, c1, c2, ck]
  have c := ask_of c1 c2
  have hD := indexOk_rows c1
  obtain ⟨_, hp2, hp3⟩ := rowsOk_iff.1 (indexOk_parts c1).1
  have hrl8 := hD.1
  obtain ⟨m, hmL, hat, hord⟩ := rankBy_at (down := down) c ck
  have hlen := rankBy_len (down := down) c ck
  have hlen2 := rankBy_len (down := !down) c ck
  have hlen3 : ((rankByS fl rows ents nx q f (!down)).length : Int) = ((rankByS fl rows ents nx q f down).length : Int) := by omega
  have hlen4 : ((rankByS fl rows ents nx q f down).length : Int) = ((findA fl rows ents nx q).length : Int) := by omega
  have hids : ∀ r ∈ rows, meetsM fl r.doc q = true → (findA fl rows ents nx q).contains r.id = true := fun r hr hmm => by
    rw [findA_ids c, idsP, ids_contains hp3 hr]; exact hmm
  generalize rankByS fl rows ents nx q f down = L at *
  generalize rankByS fl rows ents nx q f (!down) = B at *
  refine go7 rfl ?_; simp only [go_sem, ↓reduceIte, Nat.reduceAdd, Nat.reduceSub, Nat.reduceEqDiff, Nat.reduceLT, Nat.reduceLeDiff, Nat.reduceMul, Int.reduceNeg, Int.reduceToNat, Int.reduceEq, Int.reduceLT, Int.reduceLE, reduceCtorEq, Tryz.f7, h, hr, hfl, hfl1, hm, hes, hn, hq, e1, e2, e3, lA, c1, c2, eq_true ck]
  refine ends_for L.length (by omega) (fun i _ => mkSt [(3, .addr 0 0 0), (4, .addr 1 0 0), (5, .str f), (6, .bool down), (7, .own 2), (8, .own 3), (9, .bool (wth m i)), (10, .int .i64 (lst L i)), (11, .int .i64 i)] [.pto [.sl (fl.map Field.pv), .sl (rows.map DRow.pvF), .sl (ents.map Entry.pvF), .int .i64 nx], .pto [.int .i64 q.kind, .str q.field, .str q.text, .int .i64 q.low, .int .i64 q.high, .sl (q.parts.map pv)], .slo 3 (L.map Hit.pv), .slo 1 ((findA fl rows ents nx q).map (.int .i64))]) (fun _ _ => True) 0 () (by omega) trivial ?_ ?_
  · rintro i _ hi - hw ih
    obtain ⟨x, hx, hg, _⟩ := drop_get hi default
    have ih' := ih () trivial
    obtain ⟨r, hrm, hmm, hxd, hxk, hxn⟩ := hat i x hx
    have hci := hids r hrm hmm
    rw [← hxd] at hci
    have hki : ∃ j : Nat, keyIx rows x.key = j ∧ rows[j]? = some r := by
      obtain ⟨j, hj, rfl⟩ := List.getElem_of_mem hrm
      refine ⟨j, ?_, List.getElem?_eq_getElem hj⟩
      rw [hxk]
      exact (keyIx_at hj).2 fun k hk => (List.pairwise_iff_getElem.1 hp2) k j (by omega) hj hk
    obtain ⟨j, hj1, hj2⟩ := hki
    have hdk := hD.2 r hrm
    have hdm : DSm r.doc := (docOk_st hdk).sm (by omega)
    have e4 := implDoc_ok fl rows ents nx x.key hfl hm hes hn c1 j r hj1 hj2
    have e5 := docNum_R fl r.doc f hfl hdm
    rw [hxn] at e5
    have hlst : lst L (i + 1) = x.score := by rw [lst, hg]
    have hwth : wth m (i + 1) = decide (i < m) := rfl
    rw [hlst, hwth] at ih'
    by_cases him : i < m
    · rw [decide_eq_true him] at ih' e5
      have hwi : wth m i = true := by
        cases i with
        | zero => rfl
        | succ i => exact decide_eq_true (by omega)
      by_cases h0 : 0 < i
      · have hi1 : i - 1 < L.length := by omega
        obtain ⟨y, hy, hgy, _⟩ := drop_get hi1 default
        have ho := hord (i - 1) y x (by omega) hy (by rw [show i - 1 + 1 = i by omega]; exact hx)
        have hll : lst L i = y.score := by
          obtain ⟨n, rfl⟩ : ∃ n, i = n + 1 := ⟨i - 1, by omega⟩
          rw [lst]; rw [show n + 1 - 1 = n by omega] at hgy; rw [hgy]
        have h0' : (0 : Int) < i := by omega
        cases down
        · have ho1 : ¬ x.score < y.score := by simp at ho; omega
          rw [hwi, hll]
          simp only [go_sem, ↓reduceIte, Nat.reduceAdd, Nat.reduceSub, Nat.reduceEqDiff, Nat.reduceLT, Nat.reduceLeDiff, Nat.reduceMul, Int.reduceNeg, Int.reduceToNat, Int.reduceEq, Int.reduceLT, Int.reduceLE, reduceCtorEq, hi, hw, hg, hx, e4, e5, hci, hl8, h0, h0', ho1]
          first | exact ih' | exact ⟨by decide +kernel, ih'⟩
        · have ho1 : ¬ y.score < x.score := by simp at ho; omega
          rw [hwi, hll]
          simp only [go_sem, ↓reduceIte, Nat.reduceAdd, Nat.reduceSub, Nat.reduceEqDiff, Nat.reduceLT, Nat.reduceLeDiff, Nat.reduceMul, Int.reduceNeg, Int.reduceToNat, Int.reduceEq, Int.reduceLT, Int.reduceLE, reduceCtorEq, hi, hw, hg, hx, e4, e5, hci, hl8, h0, h0', ho1]
          first | exact ih' | exact ⟨by decide +kernel, ih'⟩
      · have h0' : ¬ (0 : Int) < i := by omega
        rw [hwi]
        simp only [go_sem, ↓reduceIte, Nat.reduceAdd, Nat.reduceSub, Nat.reduceEqDiff, Nat.reduceLT, Nat.reduceLeDiff, Nat.reduceMul, Int.reduceNeg, Int.reduceToNat, Int.reduceEq, Int.reduceLT, Int.reduceLE, reduceCtorEq, hi, hw, hg, hx, e4, e5, hci, hl8, h0, h0']
        first | exact ih' | exact ⟨by decide +kernel, ih'⟩
    · rw [decide_eq_false him] at ih' e5
      simp only [go_sem, ↓reduceIte, Nat.reduceAdd, Nat.reduceSub, Nat.reduceEqDiff, Nat.reduceLT, Nat.reduceLeDiff, Nat.reduceMul, Int.reduceNeg, Int.reduceToNat, Int.reduceEq, Int.reduceLT, Int.reduceLE, reduceCtorEq, hi, hw, hg, hx, e4, e5, hci, hl8]
      first | exact ih' | exact ⟨by decide +kernel, ih'⟩
  · rintro _ -
    simp only [go_sem, ↓reduceIte, Nat.reduceAdd, Nat.reduceSub, Nat.reduceEqDiff, Nat.reduceLT, Nat.reduceLeDiff, Nat.reduceMul, Int.reduceNeg, Int.reduceToNat, Int.reduceEq, Int.reduceLT, Int.reduceLE, reduceCtorEq, hlen3, hlen4, e3]
end Go.Proofs.YtgnggcpcijcahaaGreatDoor.PVE
