/- What parts find together: the law of sets. -/
import Derived.Test.YtdebinbhbdlbaaaGreatDoorT52
set_option linter.unusedVariables false
set_option linter.unusedSimpArgs false
set_option maxRecDepth 100000
namespace Go.Proofs.YtdebinbhbdlbaaaGreatDoor.PVE
open PV Query
def partsTo (fl : List Field) (q : Query) (i : Nat) (r : DRow) : Bool := if q.kind = 7 then (q.parts.take i).all (meetsM fl r.doc) else (q.parts.take i).any (meetsM fl r.doc)
theorem partsTo_and {fl : List Field} {q : Query} (hk : q.kind = 7) {i : Nat} {p : Query} (hx : q.parts[i]? = some p) (r : DRow) : partsTo fl q (i + 1) r = (partsTo fl q i r && meetsM fl r.doc p) := by
  rw [partsTo, partsTo, if_pos hk, if_pos hk, List.take_add_one, hx, List.all_append]; simp
theorem partsTo_or {fl : List Field} {q : Query} (hk : ¬ q.kind = 7) {i : Nat} {p : Query} (hx : q.parts[i]? = some p) (r : DRow) : partsTo fl q (i + 1) r = (partsTo fl q i r || meetsM fl r.doc p) := by
  rw [partsTo, partsTo, if_neg hk, if_neg hk, List.take_add_one, hx, List.any_append]; simp
theorem partsTo_one {fl : List Field} {q p : Query} {ps : List Query} (hp : q.parts = p :: ps) (r : DRow) : partsTo fl q 1 r = meetsM fl r.doc p := by
  rw [partsTo, hp]; simp
theorem partsTo_all {fl : List Field} {q : Query} (hq : q.kind = 7 ∨ q.kind = 8) (r : DRow) : partsTo fl q q.parts.length r = meetsM fl r.doc q := by
  rw [partsTo, List.take_length, meetsM_eq]
  rcases hq with h | h
  · rw [if_pos h, if_pos h]
  · rw [if_neg (by omega), if_neg (by omega), if_pos h]
theorem kind_parts {q : Query} (h : okQ 4 q = true) (hp : q.parts ≠ []) : (q.kind = 7 ∨ q.kind = 8) ∨ (q.kind = 9 ∧ ∃ x, q.parts = [x]) := by
  obtain ⟨e, _, hn, _⟩ := okQ_node h
  rcases node_kinds hn with ⟨_, _, h⟩ | ⟨h, _⟩ | h
  · exact absurd h hp
  · exact .inl h
  · exact .inr h
theorem part_sm {q : Query} (h : q.Sm) : ∀ p ∈ q.parts, p.Sm := by obtain ⟨_, _, _, _, h⟩ := h; exact h
theorem part_len {q : Query} (h : q.Sm) : q.parts.length ≤ 1099511627776 := by obtain ⟨_, _, _, h, _⟩ := h; exact h
@[go_sem] theorem FnFindSets_R (b : Str) (hb : b.length ≤ 9223372036854775807) : R S0 7 [.sl (b.map bytePV)] = some ⟨[none], .bool true⟩ := by
  by_cases h : 1048576 < (b.length : Int)
  · refine go7 rfl ?_; simp only [go_sem, ↓reduceIte, Nat.reduceAdd, Nat.reduceSub, Nat.reduceEqDiff, Nat.reduceLT, Nat.reduceLeDiff, Nat.reduceMul, Int.reduceNeg, Int.reduceToNat, Int.reduceEq, Int.reduceLT, Int.reduceLE, reduceCtorEq, Tryz.f7, h]
  obtain ⟨r, hr, fl, rows, ents, nx, q, rfl, hfl, hrs, hes, hn1, hn2, hq⟩ := drawFind_ex b
  have hm := hrs.sm (by omega) (by omega)
  have hn : -9223372036854775807 ≤ nx ∧ nx ≤ 9223372036854775807 := by omega
  have hl8 : (findA fl rows ents nx q).length ≤ 1099511627776 := by have := findA_len (fl := fl) (rows := rows) (ents := ents) (nx := nx) (q := q); omega
  cases c1 : indexOkS fl rows ents nx with
  | false => refine go7 rfl ?_; simp only [go_sem, ↓reduceIte, Nat.reduceAdd, Nat.reduceSub, Nat.reduceEqDiff, Nat.reduceLT, Nat.reduceLeDiff, Nat.reduceMul, Int.reduceNeg, Int.reduceToNat, Int.reduceEq, Int.reduceLT, Int.reduceLE, reduceCtorEq, Tryz.f7, h, hr, hfl, hm, hes, hn, hq, hl8, c1]
  | true =>
    cases c2 : (fieldsOk fl && okQ 4 q && fitsI fl q) with
    | false => refine go7 rfl ?_; simp only [go_sem, ↓reduceIte, Nat.reduceAdd, Nat.reduceSub, Nat.reduceEqDiff, Nat.reduceLT, Nat.reduceLeDiff, Nat.reduceMul, Int.reduceNeg, Int.reduceToNat, Int.reduceEq, Int.reduceLT, Int.reduceLE, reduceCtorEq, Tryz.f7, h, hr, hfl, hm, hes, hn, hq, hl8, c1, c2]
    | true =>
      obtain ⟨_, _, hp3⟩ := rowsOk_iff.1 (indexOk_parts c1).1
      have hok4 : okQ 4 q = true := by simp only [Bool.and_eq_true] at c2; exact c2.1.2
      have hpl := part_len hq
      by_cases hps : q.parts.length = 0
      · have hp0 : (q.parts.length : Int) = 0 := by omega
        refine go7 rfl ?_; simp only [go_sem, ↓reduceIte, Nat.reduceAdd, Nat.reduceSub, Nat.reduceEqDiff, Nat.reduceLT, Nat.reduceLeDiff, Nat.reduceMul, Int.reduceNeg, Int.reduceToNat, Int.reduceEq, Int.reduceLT, Int.reduceLE, reduceCtorEq, Tryz.f7, h, hr, hfl, hm, hes, hn, hq, hl8, c1, c2, hp0]
      obtain ⟨p0, ps, hpp⟩ : ∃ p ps, q.parts = p :: ps := by
        cases hc : q.parts with
        | nil => rw [hc] at hps; simp at hps
        | cons p ps => exact ⟨p, ps, rfl⟩
      have hfit : ∀ p ∈ q.parts, askOk fl rows ents nx p = true := fun p hp => ask_of c1 (fitsQ_part c2 hp)
      have hfind : ∀ p ∈ q.parts, findA fl rows ents nx p = idsP rows fun r => meetsM fl r.doc p := fun p hp => findA_ids (hfit p hp)
      have k1 := findA_ids (ask_of c1 c2)
      have hp0 : ¬ (q.parts.length : Int) = 0 := by omega
      have h0l : 0 < q.parts.length := by omega
      obtain ⟨x0, hx0, hg0, _⟩ := drop_get h0l default
      have hx00 : x0 = p0 := by rw [hpp] at hx0; exact (Option.some.inj hx0).symm
      subst hx00
      have hx0m := List.mem_of_getElem? hx0
      have e0 := implFind_R fl rows ents nx x0 hfl hm hes hn (part_sm hq x0 hx0m)
      rw [hfind x0 hx0m, idsP_congr fun r _ => (partsTo_one hpp r).symm] at e0
      have hSl : ∀ i, (idsP rows (partsTo fl q i)).length ≤ 8 := fun i => idsP_len c1 _
      have hSo : ∀ i, setOkS (idsP rows (partsTo fl q i)) = true := fun i => idsP_ok c1 _
      refine go7 rfl ?_; simp only [go_sem, ↓reduceIte, Nat.reduceAdd, Nat.reduceSub, Nat.reduceEqDiff, Nat.reduceLT, Nat.reduceLeDiff, Nat.reduceMul, Int.reduceNeg, Int.reduceToNat, Int.reduceEq, Int.reduceLT, Int.reduceLE, reduceCtorEq, Tryz.f7, h, hr, hfl, hm, hes, hn, hq, hl8, c1, c2, hp0, h0l, hx0, hg0, e0]
      refine ⟨by decide +kernel, ?_⟩
      refine ends_for q.parts.length (by omega) (fun i _ => mkSt [(3, .addr 0 0 0), (4, .addr 1 0 0), (5, .own 2), (6, .own 3), (7, .int .i64 i)] [.pto [.sl (fl.map Field.pv), .sl (rows.map DRow.pvF), .sl (ents.map Entry.pvF), .int .i64 nx], .pto [.int .i64 q.kind, .str q.field, .str q.text, .int .i64 q.low, .int .i64 q.high, .sl (q.parts.map pv)], .slo 1 ((findA fl rows ents nx q).map (.int .i64)), .slo 1 ((idsP rows (partsTo fl q i)).map (.int .i64))]) (fun _ _ => True) 1 () (by omega) trivial ?_ ?_
      · rintro i _ hi - hw ih
        obtain ⟨x, hx, hg, _⟩ := drop_get hi default
        have hxm := List.mem_of_getElem? hx
        have ih' := ih () trivial
        have e1 := implFind_R fl rows ents nx x hfl hm hes hn (part_sm hq x hxm)
        rw [hfind x hxm] at e1
        have lx : (idsP rows fun r => meetsM fl r.doc x).length ≤ 8 := idsP_len c1 _
        have ox : setOkS (idsP rows fun r => meetsM fl r.doc x) = true := idsP_ok c1 _
        have l1 := hSl i
        by_cases hk : q.kind = 7
        · have s1 := setAnd_R _ _ (hSo i) ox (by omega) (by omega)
          rw [idsP_and hp3, idsP_congr fun r _ => (partsTo_and hk hx r).symm] at s1
          simp only [go_sem, ↓reduceIte, Nat.reduceAdd, Nat.reduceSub, Nat.reduceEqDiff, Nat.reduceLT, Nat.reduceLeDiff, Nat.reduceMul, Int.reduceNeg, Int.reduceToNat, Int.reduceEq, Int.reduceLT, Int.reduceLE, reduceCtorEq, hi, hw, hg, hx, e1, eq_true hk, s1]
          first | exact ih' | exact ⟨by decide +kernel, ih'⟩ | exact ⟨by decide +kernel, by decide +kernel, ih'⟩
        · have s1 := setOr_R _ _ (hSo i) ox (by omega) (by omega)
          rw [idsP_or hp3, idsP_congr fun r _ => (partsTo_or hk hx r).symm] at s1
          simp only [go_sem, ↓reduceIte, Nat.reduceAdd, Nat.reduceSub, Nat.reduceEqDiff, Nat.reduceLT, Nat.reduceLeDiff, Nat.reduceMul, Int.reduceNeg, Int.reduceToNat, Int.reduceEq, Int.reduceLT, Int.reduceLE, reduceCtorEq, hi, hw, hg, hx, e1, hk, s1]
          first | exact ih' | exact ⟨by decide +kernel, ih'⟩ | exact ⟨by decide +kernel, by decide +kernel, ih'⟩
      · rintro _ -
        have hrl : rows.length ≤ 1099511627776 := hm.1
        rcases kind_parts hok4 (by rw [hpp]; simp) with hk | ⟨hk, y, hy⟩
        · have hk9 : ¬ q.kind = 9 := by omega
          have e2 : idsP rows (partsTo fl q q.parts.length) = findA fl rows ents nx q := by rw [k1]; exact idsP_congr fun r _ => partsTo_all hk r
          rw [e2]
          simp only [go_sem, ↓reduceIte, Nat.reduceAdd, Nat.reduceSub, Nat.reduceEqDiff, Nat.reduceLT, Nat.reduceLeDiff, Nat.reduceMul, Int.reduceNeg, Int.reduceToNat, Int.reduceEq, Int.reduceLT, Int.reduceLE, reduceCtorEq, hk9, hl8]
        · have e2 : idsP rows (partsTo fl q q.parts.length) = idsP rows fun r => meetsM fl r.doc y := by
            refine idsP_congr fun r _ => ?_
            rw [hy]; exact partsTo_one hy r
          have e3 := implFindAll_R fl rows ents nx hfl hm hes hn c1
          have ea : rows.map (·.id) = idsP rows fun _ => true := by rw [idsP, List.filter_eq_self.2 fun _ _ => rfl]
          have s1 := setLess_R _ _ (idsP_ok c1 fun _ => true) (idsP_ok c1 fun r => meetsM fl r.doc y) (by have := idsP_len c1 fun _ => true; omega) (by have := idsP_len c1 fun r => meetsM fl r.doc y; omega)
          have eq : idsP rows (fun r => true && !meetsM fl r.doc y) = findA fl rows ents nx q := by
            rw [k1]
            refine idsP_congr fun r _ => ?_
            rw [meetsM_eq fl r.doc q, if_neg (by omega), if_neg (by omega), if_pos hk, hy]
            simp [meetsNot]
          rw [idsP_less hp3, eq] at s1
          rw [ea] at e3
          rw [e2]
          simp only [go_sem, ↓reduceIte, Nat.reduceAdd, Nat.reduceSub, Nat.reduceEqDiff, Nat.reduceLT, Nat.reduceLeDiff, Nat.reduceMul, Int.reduceNeg, Int.reduceToNat, Int.reduceEq, Int.reduceLT, Int.reduceLE, reduceCtorEq, eq_true hk, hl8, e3, s1]
end Go.Proofs.YtdebinbhbdlbaaaGreatDoor.PVE
