/- Finding, both sides; the law of finding. -/
import Derived.Test.YtgnggcpcijcahaaGreatDoorTG
import Derived.Test.YtgnggcpcijcahaaGreatDoorTH
set_option linter.unusedVariables false
set_option linter.unusedSimpArgs false
set_option maxRecDepth 100000
namespace Go.Proofs.YtgnggcpcijcahaaGreatDoor.PVE
open PV Query
theorem find_R (fl : List Field) (rows : List DRow) (ents : List Entry) (nx : Int) (q : Query) (hfl : FSm fl) (hr : RowsD fl rows) (hq : q.Sm) (dp : Nat) (hok : okQ dp q = true) : R S0 55 [.agg [.sl (fl.map Field.pv), .sl (rows.map DRow.pvF), .sl (ents.map Entry.pvF), .int .i64 nx], .agg [.int .i64 q.kind, .str q.field, .str q.text, .int .i64 q.low, .int .i64 q.high, .sl (q.parts.map pv)]] = some ⟨[none, none], .slo 1 ((findS fl rows q).map (.int .i64))⟩ := by
  obtain ⟨hrl, hrd⟩ := id hr
  refine go55 rfl ?_; simp only [go_sem, ↓reduceIte, Nat.reduceAdd, Nat.reduceSub, Nat.reduceEqDiff, Nat.reduceLT, Nat.reduceLeDiff, Nat.reduceMul, Int.reduceNeg, Int.reduceToNat, Int.reduceEq, Int.reduceLT, Int.reduceLE, reduceCtorEq, Tryz.f55]
  refine ends_for rows.length (by omega) (fun i _ => mkSt [(2, .addr 0 0 0), (3, .addr 1 0 0), (5, .own 2), (10, .sl (rows.map DRow.pvF)), (11, .int .i64 rows.length), (12, .int .i64 i)] [.pto [.sl (fl.map Field.pv), .sl (rows.map DRow.pvF), .sl (ents.map Entry.pvF), .int .i64 nx], .pto [.int .i64 q.kind, .str q.field, .str q.text, .int .i64 q.low, .int .i64 q.high, .sl (q.parts.map pv)], .slo 1 ((findS fl (rows.take i) q).map (.int .i64))]) (fun _ _ => True) 0 () (by omega) trivial ?_ ?_
  · rintro i _ hi _ hw ih
    obtain ⟨r, hx, hg, _⟩ := drop_get hi default
    have hd := hrd r (List.mem_of_getElem? hx)
    have hds := (docOk_st hd).sm (by omega)
    have hm := meets_R fl r.doc hfl hds hd dp q hq hok
    have hle := findS_len fl (rows.take i) q
    have hle2 : (findS fl (rows.take i) q).length ≤ 8 := by simp only [List.length_take] at hle; omega
    have ih' := ih () trivial
    cases c : meetsM fl r.doc q with
    | true =>
      have e : findS fl (rows.take (i + 1)) q = findS fl (rows.take i) q ++ [r.id] := by rw [findS, List.take_add_one, hx, List.filter_append]; simp [c, findS]
      rw [c] at hm
      rw [e] at ih'
      simp only [go_sem, ↓reduceIte, Nat.reduceAdd, Nat.reduceSub, Nat.reduceEqDiff, Nat.reduceLT, Nat.reduceLeDiff, Nat.reduceMul, Int.reduceNeg, Int.reduceToNat, Int.reduceEq, Int.reduceLT, Int.reduceLE, reduceCtorEq, hi, hw, hg, hx, hm]
      exact ⟨by omega, ih'⟩
    | false =>
      have e : findS fl (rows.take (i + 1)) q = findS fl (rows.take i) q := by rw [findS, List.take_add_one, hx, List.filter_append]; simp [c, findS]
      rw [c] at hm
      rw [e] at ih'
      simp only [go_sem, ↓reduceIte, Nat.reduceAdd, Nat.reduceSub, Nat.reduceEqDiff, Nat.reduceLT, Nat.reduceLeDiff, Nat.reduceMul, Int.reduceNeg, Int.reduceToNat, Int.reduceEq, Int.reduceLT, Int.reduceLE, reduceCtorEq, hi, hw, hg, hx, hm]
      exact ih'
  · rintro _ _
    simp only [go_sem, ↓reduceIte, Nat.reduceAdd, Nat.reduceSub, Nat.reduceEqDiff, Nat.reduceLT, Nat.reduceLeDiff, Nat.reduceMul, Int.reduceNeg, Int.reduceToNat, Int.reduceEq, Int.reduceLT, Int.reduceLE, reduceCtorEq]
    rw [List.take_length]
@[go_sem] theorem may_R (fl : List Field) (rows : List DRow) (ents : List Entry) (nx : Int) (q : Query) (hfl : FSm fl) (hr : RowsM rows) (he : EntSm ents) (hn : -9223372036854775808 ≤ nx ∧ nx ≤ 9223372036854775807) (hq : q.Sm) : R S0 43 [.agg [.sl (fl.map Field.pv), .sl (rows.map DRow.pvF), .sl (ents.map Entry.pvF), .int .i64 nx], .agg [.int .i64 q.kind, .str q.field, .str q.text, .int .i64 q.low, .int .i64 q.high, .sl (q.parts.map pv)]] = some ⟨[none, none], .bool (askOk fl rows ents nx q)⟩ := by
  cases c1 : indexOkS fl rows ents nx with
  | false =>
    have e : askOk fl rows ents nx q = false := by rw [askOk, c1]; rfl
    refine go43 rfl ?_; simp only [go_sem, ↓reduceIte, Nat.reduceAdd, Nat.reduceSub, Nat.reduceEqDiff, Nat.reduceLT, Nat.reduceLeDiff, Nat.reduceMul, Int.reduceNeg, Int.reduceToNat, Int.reduceEq, Int.reduceLT, Int.reduceLE, reduceCtorEq, Tryz.f43, hfl, hr, he, hn, hq, c1, e]
  | true =>
    cases c2 : (fieldsOk fl && okQ 4 q && fitsI fl q) with
    | false =>
      have e : askOk fl rows ents nx q = false := by rw [askOk, c2]; simp
      refine go43 rfl ?_; simp only [go_sem, ↓reduceIte, Nat.reduceAdd, Nat.reduceSub, Nat.reduceEqDiff, Nat.reduceLT, Nat.reduceLeDiff, Nat.reduceMul, Int.reduceNeg, Int.reduceToNat, Int.reduceEq, Int.reduceLT, Int.reduceLE, reduceCtorEq, Tryz.f43, hfl, hr, he, hn, hq, c1, c2, e]
    | true =>
      have e : askOk fl rows ents nx q = true := by rw [askOk, c1, c2]; rfl
      refine go43 rfl ?_; simp only [go_sem, ↓reduceIte, Nat.reduceAdd, Nat.reduceSub, Nat.reduceEqDiff, Nat.reduceLT, Nat.reduceLeDiff, Nat.reduceMul, Int.reduceNeg, Int.reduceToNat, Int.reduceEq, Int.reduceLT, Int.reduceLE, reduceCtorEq, Tryz.f43, hfl, hr, he, hn, hq, c1, c2, e]
theorem ask_parts {fl : List Field} {rows : List DRow} {ents : List Entry} {nx : Int} {q : Query} (h : askOk fl rows ents nx q = true) : indexOkS fl rows ents nx = true ∧ (fieldsOk fl && okQ 4 q && fitsI fl q) = true ∧ okQ 4 q = true := by
  simp only [askOk, Bool.and_eq_true] at h
  exact ⟨h.1, by simp only [Bool.and_eq_true]; exact h.2, h.2.1.2⟩
def findA (fl : List Field) (rows : List DRow) (ents : List Entry) (nx : Int) (q : Query) : List Int := if askOk fl rows ents nx q = true then findS fl rows q else []
@[go_sem] theorem implFind_R (fl : List Field) (rows : List DRow) (ents : List Entry) (nx : Int) (q : Query) (hfl : FSm fl) (hr : RowsM rows) (he : EntSm ents) (hn : -9223372036854775808 ≤ nx ∧ nx ≤ 9223372036854775807) (hq : q.Sm) : R S0 16 [.agg [.sl (fl.map Field.pv), .sl (rows.map DRow.pvF), .sl (ents.map Entry.pvF), .int .i64 nx], .agg [.int .i64 q.kind, .str q.field, .str q.text, .int .i64 q.low, .int .i64 q.high, .sl (q.parts.map pv)]] = some ⟨[none, none], .slo 1 ((findA fl rows ents nx q).map (.int .i64))⟩ := by
  rw [findA]
  cases c : askOk fl rows ents nx q with
  | false =>
    rw [if_neg (by simp)]
    refine go16 rfl ?_; simp only [go_sem, ↓reduceIte, Nat.reduceAdd, Nat.reduceSub, Nat.reduceEqDiff, Nat.reduceLT, Nat.reduceLeDiff, Nat.reduceMul, Int.reduceNeg, Int.reduceToNat, Int.reduceEq, Int.reduceLT, Int.reduceLE, reduceCtorEq, Tryz.f16, hfl, hr, he, hn, hq, c]
  | true =>
    rw [if_pos rfl]
    obtain ⟨c1, c2, c3⟩ := ask_parts c
    have hf := find_R fl rows ents nx q hfl (indexOk_rows c1) hq 4 c3
    refine go16 rfl ?_; simp only [go_sem, ↓reduceIte, Nat.reduceAdd, Nat.reduceSub, Nat.reduceEqDiff, Nat.reduceLT, Nat.reduceLeDiff, Nat.reduceMul, Int.reduceNeg, Int.reduceToNat, Int.reduceEq, Int.reduceLT, Int.reduceLE, reduceCtorEq, Tryz.f16, hfl, hr, he, hn, hq, c, hf]
theorem findA_len {fl : List Field} {rows : List DRow} {ents : List Entry} {nx : Int} {q : Query} : (findA fl rows ents nx q).length ≤ 8 := by
  unfold findA
  split
  · rename_i h
    have := (indexOk_rows (ask_parts h).1).1
    have := findS_len fl rows q
    omega
  · simp
end Go.Proofs.YtgnggcpcijcahaaGreatDoor.PVE
namespace Go.Proofs.YtgnggcpcijcahaaGreatDoor.PVE
open PV Query
def setOkS (l : List Int) : Bool := decide (∀ n ∈ l, inB n 0 999999999 = true) && (decide (l.Pairwise (fun a b => a < b)) && decide (l.length ≤ 16))
theorem pw_snoc {l : List Int} {i : Nat} {x y : Int} (hp : (l.take (i + 1)).Pairwise (fun a b => a < b)) (hy : l[i]? = some y) (h : y < x) : ∀ a ∈ l.take (i + 1), a < x := by
  intro a ha
  have hi : i < l.length := by
    rcases Nat.lt_or_ge i l.length with h | h
    · exact h
    · rw [List.getElem?_eq_none h] at hy; cases hy
  rw [List.take_add_one, hy] at ha hp
  rcases List.mem_append.1 ha with ha | ha
  · have := (List.pairwise_append.1 hp).2.2 a ha y (by simp)
    exact Int.lt_trans this h
  · simp only [Option.toList, List.mem_singleton] at ha
    subst ha; exact h
@[go_sem] theorem implSetOk_R (l : List Int) (hl : l.length ≤ 1099511627776) : R S0 130 [.sl (l.map (.int .i64))] = some ⟨[none], .bool (setOkS l)⟩ := by
  refine go130 rfl ?_; simp only [go_sem, ↓reduceIte, Nat.reduceAdd, Nat.reduceSub, Nat.reduceEqDiff, Nat.reduceLT, Nat.reduceLeDiff, Nat.reduceMul, Int.reduceNeg, Int.reduceToNat, Int.reduceEq, Int.reduceLT, Int.reduceLE, reduceCtorEq, Tryz.f130]
  refine ends_for l.length (by omega) (fun i _ => mkSt [(0, .sl (l.map (.int .i64))), (5, .sl (l.map (.int .i64))), (6, .int .i64 l.length), (7, .int .i64 i)] []) (fun i _ => (∀ n ∈ l.take i, inB n 0 999999999 = true) ∧ (l.take i).Pairwise (fun a b => a < b)) 0 () (by omega) (by simp) ?_ ?_
  · rintro i _ hi ⟨hI1, hI2⟩ hw ih
    obtain ⟨x, hx, hg, _⟩ := drop_get hi default
    have hxm := List.mem_of_getElem? hx
    have htk : l.take (i + 1) = l.take i ++ [x] := by rw [List.take_add_one, hx]; rfl
    cases c1 : inB x 0 999999999 with
    | false =>
      have hn : setOkS l = false := by
        rw [setOkS, decide_eq_false fun h => by rw [h x hxm] at c1; cases c1]; rfl
      simp only [go_sem, ↓reduceIte, Nat.reduceAdd, Nat.reduceSub, Nat.reduceEqDiff, Nat.reduceLT, Nat.reduceLeDiff, Nat.reduceMul, Int.reduceNeg, Int.reduceToNat, Int.reduceEq, Int.reduceLT, Int.reduceLE, reduceCtorEq, hi, hw, hg, hx, c1, hn]
    | true =>
      have d1 : ∀ n ∈ l.take (i + 1), inB n 0 999999999 = true := by
        intro n h
        rw [htk] at h
        rcases List.mem_append.1 h with h | h
        · exact hI1 n h
        · simp only [List.mem_singleton] at h; subst h; exact c1
      cases i with
      | zero =>
        have ih' := ih () ⟨d1, by rw [htk]; simp⟩
        rw [show ((0 : Nat) : Int) = 0 from rfl] at *
        have hi0 : (0 : Int) < (l.length : Int) := by omega
        simp only [go_sem, ↓reduceIte, Nat.reduceAdd, Nat.reduceSub, Nat.reduceEqDiff, Nat.reduceLT, Nat.reduceLeDiff, Nat.reduceMul, Int.reduceNeg, Int.reduceToNat, Int.reduceEq, Int.reduceLT, Int.reduceLE, reduceCtorEq, hi, hi0, hw, hg, hx, c1]
        exact ih'
      | succ j =>
        have g0 : (0 : Int) < ((j + 1 : Nat) : Int) := by omega
        have hw1 : IntKind.i64.wrap (((j + 1 : Nat) : Int) - 1) = (j : Int) := by rw [wrap_in (by omega) (by omega)]; omega
        have hj : j < l.length := by omega
        obtain ⟨y, hy, hgy, _⟩ := drop_get hj default
        by_cases c2 : y < x
        · have c2' : ¬ x ≤ y := by omega
          have ih' := ih () ⟨d1, by
            rw [htk]
            exact List.pairwise_append.2 ⟨hI2, List.pairwise_singleton _ _, fun a ha b hb => by
              simp only [List.mem_singleton] at hb
              subst hb
              exact pw_snoc hI2 hy c2 a ha⟩⟩
          simp only [go_sem, ↓reduceIte, Nat.reduceAdd, Nat.reduceSub, Nat.reduceEqDiff, Nat.reduceLT, Nat.reduceLeDiff, Nat.reduceMul, Int.reduceNeg, Int.reduceToNat, Int.reduceEq, Int.reduceLT, Int.reduceLE, reduceCtorEq, hi, hw, hg, hx, c1, g0, hw1, hj, hy, hgy, c2']
          exact ih'
        · have c2' : x ≤ y := by omega
          have hn : setOkS l = false := by
            have : ¬ l.Pairwise (fun a b => a < b) := fun h => by
              have := (List.pairwise_iff_getElem.1 h) j (j + 1) hj hi (by omega)
              rw [List.getElem?_eq_getElem hj] at hy
              rw [List.getElem?_eq_getElem hi] at hx
              rw [Option.some.inj hy, Option.some.inj hx] at this
              exact c2 this
            rw [setOkS, decide_eq_false this]; simp
          simp only [go_sem, ↓reduceIte, Nat.reduceAdd, Nat.reduceSub, Nat.reduceEqDiff, Nat.reduceLT, Nat.reduceLeDiff, Nat.reduceMul, Int.reduceNeg, Int.reduceToNat, Int.reduceEq, Int.reduceLT, Int.reduceLE, reduceCtorEq, hi, hw, hg, hx, c1, g0, hw1, hj, hy, hgy, c2', hn]
  · rintro _ ⟨hI1, hI2⟩
    rw [List.take_length] at hI1 hI2
    by_cases c : l.length ≤ 16
    · have c' : (l.length : Int) ≤ 16 := by omega
      have hn : setOkS l = true := by rw [setOkS, decide_eq_true hI1, decide_eq_true hI2, decide_eq_true c]; rfl
      simp only [go_sem, ↓reduceIte, Nat.reduceAdd, Nat.reduceSub, Nat.reduceEqDiff, Nat.reduceLT, Nat.reduceLeDiff, Nat.reduceMul, Int.reduceNeg, Int.reduceToNat, Int.reduceEq, Int.reduceLT, Int.reduceLE, reduceCtorEq, c', hn]
    · have c' : ¬ (l.length : Int) ≤ 16 := by omega
      have hn : setOkS l = false := by rw [setOkS, decide_eq_false c]; simp
      simp only [go_sem, ↓reduceIte, Nat.reduceAdd, Nat.reduceSub, Nat.reduceEqDiff, Nat.reduceLT, Nat.reduceLeDiff, Nat.reduceMul, Int.reduceNeg, Int.reduceToNat, Int.reduceEq, Int.reduceLT, Int.reduceLE, reduceCtorEq, c', hn]
end Go.Proofs.YtgnggcpcijcahaaGreatDoor.PVE
namespace Go.Proofs.YtgnggcpcijcahaaGreatDoor.PVE
open PV Query
end Go.Proofs.YtgnggcpcijcahaaGreatDoor.PVE
