/- Drawn scores; what is not found has no score; what is looked for twice: laws. -/
import Derived.Test.YtgnggcpcijcahaaGreatDoorT60
set_option linter.unusedVariables false
set_option linter.unusedSimpArgs false
set_option maxRecDepth 100000
namespace Go.Proofs.YtgnggcpcijcahaaGreatDoor.PVE
open PV Query
theorem scoreA_le {fl : List Field} {rows : List DRow} {ents : List Entry} {nx : Int} {q : Query} {n : Int} : scoreA fl rows ents nx q n ≤ 449740800 := by
  cases c : askOk fl rows ents nx q with
  | false => rw [scoreA_no (.inl c)]; omega
  | true =>
    rcases idIx_cases rows n with ⟨h1, _⟩ | ⟨i, r, hi, h1, hx, _, hrm⟩
    · rw [scoreA_no (.inr h1)]; omega
    · obtain ⟨c1, c2, c3⟩ := ask_parts c
      have hD := indexOk_rows c1
      rw [scoreA_at c h1 hx]
      exact scoreN_le (hD.2 r hrm) hD.1 4 q c3
theorem ask_part {fl : List Field} {rows : List DRow} {ents : List Entry} {nx : Int} {q p : Query} (h : askOk fl rows ents nx q = true) (hp : p ∈ q.parts) : askOk fl rows ents nx p = true := by
  obtain ⟨c1, c2, _⟩ := ask_parts h
  exact ask_of c1 (fitsQ_part c2 hp)
theorem score_parts {fl : List Field} {rows : List DRow} {ents : List Entry} {nx : Int} {q : Query} {n : Int} (h : askOk fl rows ents nx q = true) (hk : q.kind = 7 ∨ q.kind = 8) : (q.parts.map fun p => scoreA fl rows ents nx p n).sum = scoreA fl rows ents nx q n := by
  rcases idIx_cases rows n with ⟨h1, _⟩ | ⟨i, r, hi, h1, hx, _, hrm⟩
  · rw [scoreA_no (.inr h1)]
    have : (q.parts.map fun p => scoreA fl rows ents nx p n) = q.parts.map fun _ => 0 := List.map_congr_left fun p _ => scoreA_no (.inr h1)
    rw [this]
    induction q.parts with
    | nil => rfl
    | cons a l ih => rw [List.map_cons, List.sum_cons, ih]
  · rw [scoreA_at h h1 hx, scoreN_eq, if_pos hk]
    congr 1
    exact List.map_congr_left fun p hp => scoreA_at (ask_part h hp) h1 hx
theorem score_zero {fl : List Field} {rows : List DRow} {ents : List Entry} {nx : Int} {q : Query} {n : Int} (h7 : ¬ q.kind = 7) (h8 : ¬ q.kind = 8) (h2 : ¬ q.kind = 2) (h3 : ¬ q.kind = 3) (h4 : ¬ q.kind = 4) : scoreA fl rows ents nx q n = 0 := by
  rw [scoreA]
  split
  · rw [scoreN_eq, if_neg (by omega), if_neg (by omega)]
  · rfl
theorem score_found {fl : List Field} {rows : List DRow} {ents : List Entry} {nx : Int} {q : Query} {n : Int} (h : askOk fl rows ents nx q = true) (hk : q.kind = 2 ∨ q.kind = 3 ∨ q.kind = 4) : decide (0 < scoreA fl rows ents nx q n) = (findA fl rows ents nx q).contains n := by
  obtain ⟨c1, c2, c3⟩ := ask_parts h
  obtain ⟨_, _, hp3⟩ := rowsOk_iff.1 (indexOk_parts c1).1
  rw [findA_ids h]
  rcases idIx_cases rows n with ⟨h1, h2⟩ | ⟨i, r, hi, h1, hx, rfl, hrm⟩
  · rw [scoreA_no (.inr h1)]
    have : (idsP rows fun r => meetsM fl r.doc q).contains n = false := by
      rw [List.contains_eq_mem, decide_eq_false_iff_not, idsP_mem]
      rintro ⟨r, hr, _, hn⟩
      exact h2 r hr hn
    rw [this]; rfl
  · rw [idsP, ids_contains hp3 hrm, scoreA_at h h1 hx, scoreN_eq, if_neg (by omega), if_pos hk]
    have hM : meetsM fl r.doc q = decide (0 < weightN fl r.doc q) := by
      rw [meetsM_eq, if_neg (by omega), if_neg (by omega), if_neg (by omega), leafM, if_neg (by omega), if_neg (by omega), if_neg (by omega)]
    have hF : (findS fl rows q).length ≤ rows.length := findS_len fl rows q
    rw [hM, leafScore]
    by_cases hw : 0 < weightN fl r.doc q
    · have hin : r ∈ rows.filter fun r => meetsM fl r.doc q := List.mem_filter.2 ⟨hrm, by rw [hM]; exact decide_eq_true hw⟩
      have hpos : 0 < (findS fl rows q).length := by rw [findS, List.length_map]; exact List.length_pos_of_mem hin
      rw [if_neg (by omega), decide_eq_true hw, decide_eq_true_eq]
      exact Nat.mul_pos hw (Nat.div_pos (by omega) hpos)
    · have : weightN fl r.doc q = 0 := by omega
      rw [this, decide_eq_false (by omega : ¬ 0 < 0)]
      split <;> simp
def DSPost (r : Ans) : Prop := ∃ fl : List Field, ∃ rows : List DRow, ∃ ents : List Entry, ∃ nx : Int, ∃ q : Query, ∃ n : Int, r = ⟨[none], .tup [.agg [.sl (fl.map Field.pv), .sl (rows.map DRow.pvF), .sl (ents.map Entry.pvF), .int .i64 nx], .agg [.int .i64 q.kind, .str q.field, .str q.text, .int .i64 q.low, .int .i64 q.high, .sl (q.parts.map Query.pv)], .int .i64 n]⟩ ∧ FSm fl ∧ RowsS 21 5 rows ∧ EntSm ents ∧ -1 ≤ nx ∧ nx ≤ 999999999 ∧ q.Sm
theorem drawScore_ex (b : Str) : ∃ r, R S0 10 [.sl (b.map bytePV)] = some r ∧ DSPost r := by
  have hb : (b.take 2000).length ≤ 2000 := by simp; omega
  obtain ⟨r1, hr1, fl, rows, ents, nx, q, rfl, hfl, hrs, hes, hn1, hn2, hq⟩ := drawFind_ex b
  have hm := more (p := 0) (by omega)
  have hrl := hrs.1
  have p5 := pick_R (b.take 2000) 0 5 (by omega) hb
  have p9 := pick_R (b.take 2000) 0 9 (by omega) hb
  have p1 := pick_R (b.take 2000) 1 rows.length (by omega) hb
  have p19 := pick_R (b.take 2000) 1 9 (by omega) hb
  rw [show ((0 : Nat) : Int) = 0 from rfl, show ((0 + 1 : Nat) : Int) = 1 from rfl] at p5 p9
  rw [show ((1 : Nat) : Int) = 1 from rfl] at p1 p19
  have w9 := pickV_in (b := b.take 2000) (p := 0) (n := 9) (by omega) hb
  have w19 := pickV_in (b := b.take 2000) (p := 1) (n := 9) (by omega) hb
  have v9 : IntKind.i64.wrap (pickV (b.take 2000) 0 9 - 1) = pickV (b.take 2000) 0 9 - 1 := by have := w9.2 (by omega); exact wrap_in (by omega) (by omega)
  have v19 : IntKind.i64.wrap (pickV (b.take 2000) 1 9 - 1) = pickV (b.take 2000) 1 9 - 1 := by have := w19.2 (by omega); exact wrap_in (by omega) (by omega)
  refine (fun ⟨r, h, hp⟩ => ⟨r, go10 rfl h, hp⟩ : (∃ r, Ends S0 _ _ r ∧ _) → _) ?_
  by_cases h0 : 0 < (rows.length : Int)
  · by_cases h1 : 0 < pickV (b.take 2000) 0 5
    · have hk := pickV_in (b := b.take 2000) (p := 1) (n := rows.length) (by omega) hb
      have hk2 := hk.2 (by omega)
      have e : pickV (b.take 2000) 1 rows.length = ((pickV (b.take 2000) 1 rows.length).toNat : Int) := by omega
      have hi : (pickV (b.take 2000) 1 rows.length).toNat < rows.length := by omega
      obtain ⟨x, hx, hg, _⟩ := drop_get hi default
      generalize (pickV (b.take 2000) 1 rows.length).toNat = j at e hi hx hg
      rw [e] at p1
      simp only [go_sem, ↓reduceIte, Nat.reduceAdd, Nat.reduceSub, Nat.reduceEqDiff, Nat.reduceLT, Nat.reduceLeDiff, Nat.reduceMul, Int.reduceNeg, Int.reduceToNat, Int.reduceEq, Int.reduceLT, Int.reduceLE, reduceCtorEq, Tryz.f10, hr1, hb, h0, h1, p5, p1, hi, hx, hg, ex_if, ex_bool, ex_and, ex_eq]
      exact ⟨by decide +kernel, fl, rows, ents, nx, q, _, rfl, hfl, hrs, hes, hn1, hn2, hq⟩
    · simp only [go_sem, ↓reduceIte, Nat.reduceAdd, Nat.reduceSub, Nat.reduceEqDiff, Nat.reduceLT, Nat.reduceLeDiff, Nat.reduceMul, Int.reduceNeg, Int.reduceToNat, Int.reduceEq, Int.reduceLT, Int.reduceLE, reduceCtorEq, Tryz.f10, hr1, hb, h0, h1, p5, p19, v19, ex_if, ex_bool, ex_and, ex_eq]
      exact ⟨by decide +kernel, fl, rows, ents, nx, q, _, rfl, hfl, hrs, hes, hn1, hn2, hq⟩
  · simp only [go_sem, ↓reduceIte, Nat.reduceAdd, Nat.reduceSub, Nat.reduceEqDiff, Nat.reduceLT, Nat.reduceLeDiff, Nat.reduceMul, Int.reduceNeg, Int.reduceToNat, Int.reduceEq, Int.reduceLT, Int.reduceLE, reduceCtorEq, Tryz.f10, hr1, hb, h0, p9, v9, ex_if, ex_bool, ex_and, ex_eq]
    exact ⟨by decide +kernel, fl, rows, ents, nx, q, _, rfl, hfl, hrs, hes, hn1, hn2, hq⟩
@[go_sem] theorem FnScore_R (b : Str) (hb : b.length ≤ 9223372036854775807) : R S0 3 [.sl (b.map bytePV)] = some ⟨[none], .bool true⟩ := by
  by_cases h : 1048576 < (b.length : Int)
  · refine go3 rfl ?_; simp only [go_sem, ↓reduceIte, Nat.reduceAdd, Nat.reduceSub, Nat.reduceEqDiff, Nat.reduceLT, Nat.reduceLeDiff, Nat.reduceMul, Int.reduceNeg, Int.reduceToNat, Int.reduceEq, Int.reduceLT, Int.reduceLE, reduceCtorEq, Tryz.f3, h]
  obtain ⟨r, hr, fl, rows, ents, nx, q, n, rfl, hfl, hrs, hes, hn1, hn2, hq⟩ := drawScore_ex b
  have hm := hrs.sm (by omega) (by omega)
  have hn : -9223372036854775808 ≤ nx ∧ nx ≤ 9223372036854775807 := by omega
  have e1 := implScore_R fl rows ents nx q n hfl hm hes hn hq
  have e2 := specScore_R fl rows ents nx q n hfl hm hes hn hq
  have hl8 : (findA fl rows ents nx q).length ≤ 1099511627776 := by have := findA_len (fl := fl) (rows := rows) (ents := ents) (nx := nx) (q := q); omega
  cases c1 : indexOkS fl rows ents nx with
  | false => refine go3 rfl ?_; simp only [go_sem, ↓reduceIte, Nat.reduceAdd, Nat.reduceSub, Nat.reduceEqDiff, Nat.reduceLT, Nat.reduceLeDiff, Nat.reduceMul, Int.reduceNeg, Int.reduceToNat, Int.reduceEq, Int.reduceLT, Int.reduceLE, reduceCtorEq, Tryz.f3, h, hr, hfl, hm, hes, hn, hq, hl8, c1, e1, e2]
  | true =>
    cases c2 : (fieldsOk fl && okQ 4 q && fitsI fl q) with
    | false => refine go3 rfl ?_; simp only [go_sem, ↓reduceIte, Nat.reduceAdd, Nat.reduceSub, Nat.reduceEqDiff, Nat.reduceLT, Nat.reduceLeDiff, Nat.reduceMul, Int.reduceNeg, Int.reduceToNat, Int.reduceEq, Int.reduceLT, Int.reduceLE, reduceCtorEq, Tryz.f3, h, hr, hfl, hm, hes, hn, hq, hl8, c1, c2, e1, e2]
    | true =>
      have ha := ask_of c1 c2
      have hpl := parts_le (okQ_node (ask_parts ha).2.2).choose_spec.2.1
      obtain ⟨_, hqf, hqt, hqp, hqs⟩ := id hq
      have hsb : ∀ i, ((q.parts.take i).map fun p => scoreA fl rows ents nx p n).sum ≤ 449740800 * 4 := fun i => by
        have := sum_le (l := q.parts.take i) (f := fun p => scoreA fl rows ents nx p n) (k := 449740800) fun x hx => scoreA_le
        refine Nat.le_trans this (Nat.mul_le_mul_left _ ?_)
        simp; omega
      have hsc : scoreA fl rows ents nx q n ≤ 449740800 := scoreA_le
      refine go3 rfl ?_; simp only [go_sem, ↓reduceIte, Nat.reduceAdd, Nat.reduceSub, Nat.reduceEqDiff, Nat.reduceLT, Nat.reduceLeDiff, Nat.reduceMul, Int.reduceNeg, Int.reduceToNat, Int.reduceEq, Int.reduceLT, Int.reduceLE, reduceCtorEq, Tryz.f3, h, hr, hfl, hm, hes, hn, hq, hl8, c1, c2, e1, e2]
      refine ends_for q.parts.length (by omega) (fun i (m : Nat) => mkSt [(3, .addr 0 0 0), (4, .addr 1 0 0), (5, .int .i64 n), (6, .int .i64 (scoreA fl rows ents nx q n : Nat)), (7, .bool ((findA fl rows ents nx q).contains n)), (8, .int .i64 m), (9, .int .i64 i)] [.pto [.sl (fl.map Field.pv), .sl (rows.map DRow.pvF), .sl (ents.map Entry.pvF), .int .i64 nx], .pto [.int .i64 q.kind, .str q.field, .str q.text, .int .i64 q.low, .int .i64 q.high, .sl (q.parts.map pv)]]) (fun i m => m = ((q.parts.take i).map fun p => scoreA fl rows ents nx p n).sum) 0 0 (by omega) (by simp) ?_ ?_
      · rintro i m hi hI hw ihl
        obtain ⟨x, hx, hg, _⟩ := drop_get hi default
        have hxm := List.mem_of_getElem? hx
        have hS := implScore_R fl rows ents nx x n hfl hm hes hn (hqs x hxm)
        have hb1 := hsb (i + 1)
        have hnext : ((q.parts.take (i + 1)).map fun p => scoreA fl rows ents nx p n).sum = m + scoreA fl rows ents nx x n := by rw [List.take_add_one, hx, List.map_append, List.sum_append, hI]; simp
        have hw2 : IntKind.i64.wrap ((m : Int) + ((scoreA fl rows ents nx x n : Nat) : Int)) = ((m + scoreA fl rows ents nx x n : Nat) : Int) := by rw [wrap_in (by omega) (by omega)]; omega
        simp only [go_sem, ↓reduceIte, Nat.reduceAdd, Nat.reduceSub, Nat.reduceEqDiff, Nat.reduceLT, Nat.reduceLeDiff, Nat.reduceMul, Int.reduceNeg, Int.reduceToNat, Int.reduceEq, Int.reduceLT, Int.reduceLE, reduceCtorEq, hi, hw, hg, hx, hS, hw2]
        first | exact ihl _ hnext.symm | exact ⟨by decide +kernel, ihl _ hnext.symm⟩
      · rintro m hI
        rw [List.take_length] at hI
        by_cases k7 : q.kind = 7
        · have := score_parts (n := n) ha (.inl k7)
          rw [← hI] at this
          simp only [go_sem, ↓reduceIte, Nat.reduceAdd, Nat.reduceSub, Nat.reduceEqDiff, Nat.reduceLT, Nat.reduceLeDiff, Nat.reduceMul, Int.reduceNeg, Int.reduceToNat, Int.reduceEq, Int.reduceLT, Int.reduceLE, reduceCtorEq, k7]
          omega
        by_cases k8 : q.kind = 8
        · have := score_parts (n := n) ha (.inr k8)
          rw [← hI] at this
          simp only [go_sem, ↓reduceIte, Nat.reduceAdd, Nat.reduceSub, Nat.reduceEqDiff, Nat.reduceLT, Nat.reduceLeDiff, Nat.reduceMul, Int.reduceNeg, Int.reduceToNat, Int.reduceEq, Int.reduceLT, Int.reduceLE, reduceCtorEq, k7, k8]
          omega
        by_cases k2 : q.kind = 2
        · have := score_found (n := n) ha (.inl k2)
          simp only [go_sem, ↓reduceIte, Nat.reduceAdd, Nat.reduceSub, Nat.reduceEqDiff, Nat.reduceLT, Nat.reduceLeDiff, Nat.reduceMul, Int.reduceNeg, Int.reduceToNat, Int.reduceEq, Int.reduceLT, Int.reduceLE, reduceCtorEq, k7, k8, k2]
          (rw [← this]; simp)
        by_cases k3 : q.kind = 3
        · have := score_found (n := n) ha (.inr (.inl k3))
          simp only [go_sem, ↓reduceIte, Nat.reduceAdd, Nat.reduceSub, Nat.reduceEqDiff, Nat.reduceLT, Nat.reduceLeDiff, Nat.reduceMul, Int.reduceNeg, Int.reduceToNat, Int.reduceEq, Int.reduceLT, Int.reduceLE, reduceCtorEq, k7, k8, k2, k3]
          (rw [← this]; simp)
        by_cases k4 : q.kind = 4
        · have := score_found (n := n) ha (.inr (.inr k4))
          simp only [go_sem, ↓reduceIte, Nat.reduceAdd, Nat.reduceSub, Nat.reduceEqDiff, Nat.reduceLT, Nat.reduceLeDiff, Nat.reduceMul, Int.reduceNeg, Int.reduceToNat, Int.reduceEq, Int.reduceLT, Int.reduceLE, reduceCtorEq, k7, k8, k2, k3, k4]
          (rw [← this]; simp)
        have := score_zero (fl := fl) (rows := rows) (ents := ents) (nx := nx) (n := n) k7 k8 k2 k3 k4
        simp only [go_sem, ↓reduceIte, Nat.reduceAdd, Nat.reduceSub, Nat.reduceEqDiff, Nat.reduceLT, Nat.reduceLeDiff, Nat.reduceMul, Int.reduceNeg, Int.reduceToNat, Int.reduceEq, Int.reduceLT, Int.reduceLE, reduceCtorEq, k7, k8, k2, k3, k4]
        omega
def twoQ (k : Int) (q : Query) : Query := .mk k [] [] 0 0 [q, q]
theorem twoQ_sm {k : Int} {q : Query} (h : q.Sm) : (twoQ k q).Sm := ⟨_, by show 0 ≤ _; omega, by show 0 ≤ _; omega, by show 2 ≤ _; omega, fun p hp => by simp [twoQ, Query.parts] at hp; subst hp; exact h⟩
theorem twoQ_parts (k : Int) (q : Query) : (twoQ k q).parts.map pv = [.agg [.int .i64 q.kind, .str q.field, .str q.text, .int .i64 q.low, .int .i64 q.high, .sl (q.parts.map pv)], .agg [.int .i64 q.kind, .str q.field, .str q.text, .int .i64 q.low, .int .i64 q.high, .sl (q.parts.map pv)]] := by rw [show (twoQ k q).parts = [q, q] from rfl, List.map_cons, List.map_cons, List.map_nil, pv_eq]
theorem twoQ_or {fl : List Field} {q : Query} (h : fitsQ fl (twoQ 7 q) = true) : fitsQ fl (twoQ 8 q) = true := by
  simp only [fitsQ, Bool.and_eq_true] at h ⊢
  obtain ⟨⟨h1, h2⟩, h3⟩ := h
  refine ⟨⟨h1, ?_⟩, ?_⟩
  · rw [okQ, Bool.and_eq_true] at h2 ⊢
    refine ⟨?_, h2.2⟩
    rw [nodeOk, if_neg (by simp [twoQ, Query.parts])]
    simp [twoQ, Query.kind, Query.parts, Query.field, Query.text, Query.low, Query.high, inB]
  · rw [twoQ, fitsI, if_neg (by omega)] at h3 ⊢
    exact h3
theorem meets_two {fl : List Field} {d : Doc} {k : Int} {q : Query} (hk : k = 7 ∨ k = 8) : meetsM fl d (twoQ k q) = meetsM fl d q := by
  rcases hk with rfl | rfl
  · rw [meetsM_eq, if_pos (show (twoQ 7 q).kind = 7 from rfl)]; simp [twoQ, Query.parts]
  · rw [meetsM_eq, if_neg (by show ¬ (8 : Int) = 7; decide), if_pos (show (twoQ 8 q).kind = 8 from rfl)]; simp [twoQ, Query.parts]
theorem score_two {fl : List Field} {rows : List DRow} {ents : List Entry} {nx : Int} {q : Query} {n : Int} (h : askOk fl rows ents nx (twoQ 8 q) = true) : scoreA fl rows ents nx (twoQ 8 q) n = 2 * scoreA fl rows ents nx q n := by
  rw [← score_parts h (.inr rfl)]
  simp [twoQ, Query.parts]
  omega
theorem implFind_two (fl : List Field) (rows : List DRow) (ents : List Entry) (nx : Int) (k : Int) (q : Query) (hfl : FSm fl) (hr : RowsM rows) (he : EntSm ents) (hn : -9223372036854775808 ≤ nx ∧ nx ≤ 9223372036854775807) (hq : q.Sm) : R S0 16 [.agg [.sl (fl.map Field.pv), .sl (rows.map DRow.pvF), .sl (ents.map Entry.pvF), .int .i64 nx], .agg [.int .i64 k, .str [], .str [], .int .i64 0, .int .i64 0, .sl [.agg [.int .i64 q.kind, .str q.field, .str q.text, .int .i64 q.low, .int .i64 q.high, .sl (q.parts.map pv)], .agg [.int .i64 q.kind, .str q.field, .str q.text, .int .i64 q.low, .int .i64 q.high, .sl (q.parts.map pv)]]]] = some ⟨[none, none], .slo 1 ((findA fl rows ents nx (twoQ k q)).map (.int .i64))⟩ := by
  have := implFind_R fl rows ents nx (twoQ k q) hfl hr he hn (twoQ_sm hq)
  rw [twoQ_parts] at this
  exact this
theorem implScore_two (fl : List Field) (rows : List DRow) (ents : List Entry) (nx : Int) (k : Int) (q : Query) (n : Int) (hfl : FSm fl) (hr : RowsM rows) (he : EntSm ents) (hn : -9223372036854775808 ≤ nx ∧ nx ≤ 9223372036854775807) (hq : q.Sm) : R S0 11 [.agg [.sl (fl.map Field.pv), .sl (rows.map DRow.pvF), .sl (ents.map Entry.pvF), .int .i64 nx], .agg [.int .i64 k, .str [], .str [], .int .i64 0, .int .i64 0, .sl [.agg [.int .i64 q.kind, .str q.field, .str q.text, .int .i64 q.low, .int .i64 q.high, .sl (q.parts.map pv)], .agg [.int .i64 q.kind, .str q.field, .str q.text, .int .i64 q.low, .int .i64 q.high, .sl (q.parts.map pv)]]], .int .i64 n] = some ⟨[none, none, none], .int .i64 (scoreA fl rows ents nx (twoQ k q) n)⟩ := by
  have := implScore_R fl rows ents nx (twoQ k q) n hfl hr he hn (twoQ_sm hq)
  rw [twoQ_parts] at this
  exact this
theorem specFits_two (l : List Field) (k : Int) (q : Query) (hl : FSm l) (hq : q.Sm) : R S0 14 [.sl (l.map Field.pv), .agg [.int .i64 k, .str [], .str [], .int .i64 0, .int .i64 0, .sl [.agg [.int .i64 q.kind, .str q.field, .str q.text, .int .i64 q.low, .int .i64 q.high, .sl (q.parts.map pv)], .agg [.int .i64 q.kind, .str q.field, .str q.text, .int .i64 q.low, .int .i64 q.high, .sl (q.parts.map pv)]]]] = some ⟨[none, none], .bool (fitsQ l (twoQ k q))⟩ := by
  have := specQueryFits_R l (twoQ k q) hl (twoQ_sm hq)
  rw [twoQ_parts] at this
  exact this
@[go_sem] theorem FnFindTwice_R (b : Str) (hb : b.length ≤ 9223372036854775807) : R S0 4 [.sl (b.map bytePV)] = some ⟨[none], .bool true⟩ := by
  by_cases h : 1048576 < (b.length : Int)
  · refine go4 rfl ?_; simp only [go_sem, ↓reduceIte, Nat.reduceAdd, Nat.reduceSub, Nat.reduceEqDiff, Nat.reduceLT, Nat.reduceLeDiff, Nat.reduceMul, Int.reduceNeg, Int.reduceToNat, Int.reduceEq, Int.reduceLT, Int.reduceLE, reduceCtorEq, Tryz.f4, h]
  obtain ⟨r, hr, fl, rows, ents, nx, q, rfl, hfl, hrs, hes, hn1, hn2, hq⟩ := drawFind_ex b
  have hm := hrs.sm (by omega) (by omega)
  have hn : -9223372036854775808 ≤ nx ∧ nx ≤ 9223372036854775807 := by omega
  have hl8 : (findA fl rows ents nx q).length ≤ 1099511627776 := by have := findA_len (fl := fl) (rows := rows) (ents := ents) (nx := nx) (q := q); omega
  have e1 := specFits_two fl 7 q hfl hq
  have e2 := implFind_two fl rows ents nx 7 q hfl hm hes hn hq
  have e3 := implFind_two fl rows ents nx 8 q hfl hm hes hn hq
  cases c1 : indexOkS fl rows ents nx with
  | false => refine go4 rfl ?_; simp only [go_sem, ↓reduceIte, Nat.reduceAdd, Nat.reduceSub, Nat.reduceEqDiff, Nat.reduceLT, Nat.reduceLeDiff, Nat.reduceMul, Int.reduceNeg, Int.reduceToNat, Int.reduceEq, Int.reduceLT, Int.reduceLE, reduceCtorEq, Tryz.f4, h, hr, hfl, hm, hes, hn, hq, hl8, c1]
  | true =>
    cases c2 : fitsQ fl (twoQ 7 q) with
    | false =>
      rw [c2] at e1
      refine go4 rfl ?_; simp only [go_sem, ↓reduceIte, Nat.reduceAdd, Nat.reduceSub, Nat.reduceEqDiff, Nat.reduceLT, Nat.reduceLeDiff, Nat.reduceMul, Int.reduceNeg, Int.reduceToNat, Int.reduceEq, Int.reduceLT, Int.reduceLE, reduceCtorEq, Tryz.f4, h, hr, hfl, hm, hes, hn, hq, hl8, c1, e1]
    | true =>
      rw [c2] at e1
      have hf : fitsQ fl q = true := fitsQ_part c2 (by simp [twoQ, Query.parts])
      have a7 := ask_of c1 c2
      have a8 := ask_of c1 (twoQ_or c2)
      have aq := ask_of c1 hf
      have k7 : findA fl rows ents nx (twoQ 7 q) = findA fl rows ents nx q := by rw [findA_ids a7, findA_ids aq]; exact idsP_congr fun r _ => meets_two (.inl rfl)
      have k8 : findA fl rows ents nx (twoQ 8 q) = findA fl rows ents nx q := by rw [findA_ids a8, findA_ids aq]; exact idsP_congr fun r _ => meets_two (.inr rfl)
      rw [k7] at e2
      rw [k8] at e3
      refine go4 rfl ?_; simp only [go_sem, ↓reduceIte, Nat.reduceAdd, Nat.reduceSub, Nat.reduceEqDiff, Nat.reduceLT, Nat.reduceLeDiff, Nat.reduceMul, Int.reduceNeg, Int.reduceToNat, Int.reduceEq, Int.reduceLT, Int.reduceLE, reduceCtorEq, Tryz.f4, h, hr, hfl, hm, hes, hn, hq, hl8, c1, e1, e2, e3]
      have hs0 : (8 : Int) = 8 := rfl
      have hfl8 : (findA fl rows ents nx q).length ≤ 8 := by
        rw [findA_ids aq]; exact idsP_len c1 _
      generalize hFA : findA fl rows ents nx q = I at *
      refine ends_for I.length (by omega) (fun i _ => mkSt [(3, .addr 0 0 0), (4, .addr 1 0 0), (5, .own 2), (6, .addr 3 0 0), (7, .addr 4 0 0), (8, .int .i64 0), (9, .int .i64 i)] [.pto [.sl (fl.map Field.pv), .sl (rows.map DRow.pvF), .sl (ents.map Entry.pvF), .int .i64 nx], .pto [.int .i64 q.kind, .str q.field, .str q.text, .int .i64 q.low, .int .i64 q.high, .sl (q.parts.map pv)], .slo 1 (I.map (.int .i64)), .pto [.int .i64 7, .str [], .str [], .int .i64 0, .int .i64 0, .slo 6 [.agg [.int .i64 q.kind, .str q.field, .str q.text, .int .i64 q.low, .int .i64 q.high, .sl (q.parts.map pv)], .agg [.int .i64 q.kind, .str q.field, .str q.text, .int .i64 q.low, .int .i64 q.high, .sl (q.parts.map pv)]]], .pto [.int .i64 8, .str [], .str [], .int .i64 0, .int .i64 0, .slo 6 [.agg [.int .i64 q.kind, .str q.field, .str q.text, .int .i64 q.low, .int .i64 q.high, .sl (q.parts.map pv)], .agg [.int .i64 q.kind, .str q.field, .str q.text, .int .i64 q.low, .int .i64 q.high, .sl (q.parts.map pv)]]]]) (fun _ _ => True) 0 () (by omega) trivial ?_ ?_
      · rintro i _ hi - hw ih
        obtain ⟨x, hx, hg, _⟩ := drop_get hi default
        have ih' := ih () trivial
        have s1 := implScore_two fl rows ents nx 8 q x hfl hm hes hn hq
        have s2 := implScore_R fl rows ents nx q x hfl hm hes hn hq
        rw [score_two a8] at s1
        have hb2 : scoreA fl rows ents nx q x ≤ 449740800 := scoreA_le
        generalize scoreA fl rows ents nx q x = m at *
        have x1 : IntKind.i64.wrap ((2 * m : Nat) : Int) = ((2 * m : Nat) : Int) := wrap_in (by omega) (by omega)
        have x2 : IntKind.i64.wrap (2 * (m : Int)) = ((2 * m : Nat) : Int) := by rw [wrap_in (by omega) (by omega)]; omega
        have x3 : IntKind.i64.wrap (0 + ((2 * m : Nat) : Int)) = ((2 * m : Nat) : Int) := by rw [Int.zero_add]; exact x1
        have x4 : IntKind.i64.wrap (((2 * m : Nat) : Int) - ((2 * m : Nat) : Int)) = 0 := by rw [Int.sub_self]; decide +kernel
        simp only [go_sem, ↓reduceIte, Nat.reduceAdd, Nat.reduceSub, Nat.reduceEqDiff, Nat.reduceLT, Nat.reduceLeDiff, Nat.reduceMul, Int.reduceNeg, Int.reduceToNat, Int.reduceEq, Int.reduceLT, Int.reduceLE, reduceCtorEq, hi, hw, hg, hx, s1, s2, x1, x2, x3, x4, Int.zero_add]
        first | exact ih' | exact ⟨by decide +kernel, ih'⟩
      · rintro _ -
        have hlI : I.length ≤ 1099511627776 := by omega
        simp only [go_sem, ↓reduceIte, Nat.reduceAdd, Nat.reduceSub, Nat.reduceEqDiff, Nat.reduceLT, Nat.reduceLeDiff, Nat.reduceMul, Int.reduceNeg, Int.reduceToNat, Int.reduceEq, Int.reduceLT, Int.reduceLE, reduceCtorEq, e2, e3, hlI]
end Go.Proofs.YtgnggcpcijcahaaGreatDoor.PVE
