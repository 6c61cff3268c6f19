/- Finding, both sides; the law of finding. -/
import Derived.Test.YtgnggcpcijcahaaGreatDoorTG
import Derived.Test.YtgnggcpcijcahaaGreatDoorTH
set_option linter.unusedVariables false
set_option linter.unusedSimpArgs false
set_option maxRecDepth 100000
namespace Go.Proofs.YtgnggcpcijcahaaGreatDoor.PVE
open PV Query
theorem find_R (fl : List Field) (rows : List DRow) (ents : List Entry) (nx : Int) (q : Query) (hfl : FSm fl) (hr : RowsD fl rows) (hq : q.Sm) (dp : Nat) (hok : okQ dp q = true) : R S0 55 [.agg [.sl (fl.map Field.pv), .sl (rows.map DRow.pvF), .sl (ents.map Entry.pvF), .int .i64 nx], .agg [.int .i64 q.kind, .str q.field, .str q.text, .int .i64 q.low, .int .i64 q.high, .sl (q.parts.map pv)]] = some ⟨[none, none], .slo 1 ((findS fl rows q).map (.int .i64))⟩ := by
  obtain ⟨hrl, hrd⟩ := id hr
  refine go55 rfl ?_; simp only [go_sem, ↓reduceIte, Nat.reduceAdd, Nat.reduceSub, Nat.reduceEqDiff, Nat.reduceLT, Nat.reduceLeDiff, Nat.reduceMul, Int.reduceNeg, Int.reduceToNat, Int.reduceEq, Int.reduceLT, Int.reduceLE, reduceCtorEq, Tryz.f55]
  refine ends_for rows.length (by omega) (fun i _ => mkSt [(2, .addr 0 0 0), (3, .addr 1 0 0), (5, .own 2), (10, .sl (rows.map DRow.pvF)), (11, .int .i64 rows.length), (12, .int .i64 i)] [.pto [.sl (fl.map Field.pv), .sl (rows.map DRow.pvF), .sl (ents.map Entry.pvF), .int .i64 nx], .pto [.int .i64 q.kind, .str q.field, .str q.text, .int .i64 q.low, .int .i64 q.high, .sl (q.parts.map pv)], .slo 1 ((findS fl (rows.take i) q).map (.int .i64))]) (fun _ _ => True) 0 () (by omega) trivial ?_ ?_
  · rintro i _ hi _ hw ih
    obtain ⟨r, hx, hg, _⟩ := drop_get hi default
    have hd := hrd r (List.mem_of_getElem? hx)
    have hds := (docOk_st hd).sm (by omega)
    have hm := meets_R fl r.doc hfl hds hd dp q hq hok
    have hle := findS_len fl (rows.take i) q
    have hle2 : (findS fl (rows.take i) q).length ≤ 8 := by simp only [List.length_take] at hle; omega
    have ih' := ih () trivial
    cases c : meetsM fl r.doc q with
    | true =>
      have e : findS fl (rows.take (i + 1)) q = findS fl (rows.take i) q ++ [r.id] := by rw [findS, List.take_add_one, hx, List.filter_append]; simp [c, findS]
      rw [c] at hm
      rw [e] at ih'
      simp only [go_sem, ↓reduceIte, Nat.reduceAdd, Nat.reduceSub, Nat.reduceEqDiff, Nat.reduceLT, Nat.reduceLeDiff, Nat.reduceMul, Int.reduceNeg, Int.reduceToNat, Int.reduceEq, Int.reduceLT, Int.reduceLE, reduceCtorEq, hi, hw, hg, hx, hm]
      exact ⟨by omega, ih'⟩
    | false =>
      have e : findS fl (rows.take (i + 1)) q = findS fl (rows.take i) q := by rw [findS, List.take_add_one, hx, List.filter_append]; simp [c, findS]
      rw [c] at hm
      rw [e] at ih'
      simp only [go_sem, ↓reduceIte, Nat.reduceAdd, Nat.reduceSub, Nat.reduceEqDiff, Nat.reduceLT, Nat.reduceLeDiff, Nat.reduceMul, Int.reduceNeg, Int.reduceToNat, Int.reduceEq, Int.reduceLT, Int.reduceLE, reduceCtorEq, hi, hw, hg, hx, hm]
      exact ih'
  · rintro _ _
    simp only [go_sem, ↓reduceIte, Nat.reduceAdd, Nat.reduceSub, Nat.reduceEqDiff, Nat.reduceLT, Nat.reduceLeDiff, Nat.reduceMul, Int.reduceNeg, Int.reduceToNat, Int.reduceEq, Int.reduceLT, Int.reduceLE, reduceCtorEq]
    rw [List.take_length]
@[go_sem] theorem may_R (fl : List Field) (rows : List DRow) (ents : List Entry) (nx : Int) (q : Query) (hfl : FSm fl) (hr : RowsM rows) (he : EntSm ents) (hn : -9223372036854775808 ≤ nx ∧ nx ≤ 9223372036854775807) (hq : q.Sm) : R S0 43 [.agg [.sl (fl.map Field.pv), .sl (rows.map DRow.pvF), .sl (ents.map Entry.pvF), .int .i64 nx], .agg [.int .i64 q.kind, .str q.field, .str q.text, .int .i64 q.low, .int .i64 q.high, .sl (q.parts.map pv)]] = some ⟨[none, none], .bool (askOk fl rows ents nx q)⟩ := by
  cases c1 : indexOkS fl rows ents nx with
  | false =>
    have e : askOk fl rows ents nx q = false := by rw [askOk, c1]; rfl
    refine go43 rfl ?_; simp only [go_sem, ↓reduceIte, Nat.reduceAdd, Nat.reduceSub, Nat.reduceEqDiff, Nat.reduceLT, Nat.reduceLeDiff, Nat.reduceMul, Int.reduceNeg, Int.reduceToNat, Int.reduceEq, Int.reduceLT, Int.reduceLE, reduceCtorEq, Tryz.f43, hfl, hr, he, hn, hq, c1, e]
  | true =>
    cases c2 : (fieldsOk fl && okQ 4 q && fitsI fl q) with
    | false =>
      have e : askOk fl rows ents nx q = false := by rw [askOk, c2]; simp
      refine go43 rfl ?_; simp only [go_sem, ↓reduceIte, Nat.reduceAdd, Nat.reduceSub, Nat.reduceEqDiff, Nat.reduceLT, Nat.reduceLeDiff, Nat.reduceMul, Int.reduceNeg, Int.reduceToNat, Int.reduceEq, Int.reduceLT, Int.reduceLE, reduceCtorEq, Tryz.f43, hfl, hr, he, hn, hq, c1, c2, e]
    | true =>
      have e : askOk fl rows ents nx q = true := by rw [askOk, c1, c2]; rfl
      refine go43 rfl ?_; simp only [go_sem, ↓reduceIte, Nat.reduceAdd, Nat.reduceSub, Nat.reduceEqDiff, Nat.reduceLT, Nat.reduceLeDiff, Nat.reduceMul, Int.reduceNeg, Int.reduceToNat, Int.reduceEq, Int.reduceLT, Int.reduceLE, reduceCtorEq, Tryz.f43, hfl, hr, he, hn, hq, c1, c2, e]
theorem ask_parts {fl : List Field} {rows : List DRow} {ents : List Entry} {nx : Int} {q : Query} (h : askOk fl rows ents nx q = true) : indexOkS fl rows ents nx = true ∧ (fieldsOk fl && okQ 4 q && fitsI fl q) = true ∧ okQ 4 q = true := by
  simp only [askOk, Bool.and_eq_true] at h
  exact ⟨h.1, by simp only [Bool.and_eq_true]; exact h.2, h.2.1.2⟩
def findA (fl : List Field) (rows : List DRow) (ents : List Entry) (nx : Int) (q : Query) : List Int := if askOk fl rows ents nx q = true then findS fl rows q else []
@[go_sem] theorem implFind_R (fl : List Field) (rows : List DRow) (ents : List Entry) (nx : Int) (q : Query) (hfl : FSm fl) (hr : RowsM rows) (he : EntSm ents) (hn : -9223372036854775808 ≤ nx ∧ nx ≤ 9223372036854775807) (hq : q.Sm) : R S0 16 [.agg [.sl (fl.map Field.pv), .sl (rows.map DRow.pvF), .sl (ents.map Entry.pvF), .int .i64 nx], .agg [.int .i64 q.kind, .str q.field, .str q.text, .int .i64 q.low, .int .i64 q.high, .sl (q.parts.map pv)]] = some ⟨[none, none], .slo 1 ((findA fl rows ents nx q).map (.int .i64))⟩ := by
  rw [findA]
  cases c : askOk fl rows ents nx q with
  | false =>
    rw [if_neg (by simp)]
    refine go16 rfl ?_; simp only [go_sem, ↓reduceIte, Nat.reduceAdd, Nat.reduceSub, Nat.reduceEqDiff, Nat.reduceLT, Nat.reduceLeDiff, Nat.reduceMul, Int.reduceNeg, Int.reduceToNat, Int.reduceEq, Int.reduceLT, Int.reduceLE, reduceCtorEq, Tryz.f16, hfl, hr, he, hn, hq, c]
  | true =>
    rw [if_pos rfl]
    obtain ⟨c1, c2, c3⟩ := ask_parts c
    have hf := find_R fl rows ents nx q hfl (indexOk_rows c1) hq 4 c3
    refine go16 rfl ?_; simp only [go_sem, ↓reduceIte, Nat.reduceAdd, Nat.reduceSub, Nat.reduceEqDiff, Nat.reduceLT, Nat.reduceLeDiff, Nat.reduceMul, Int.reduceNeg, Int.reduceToNat, Int.reduceEq, Int.reduceLT, Int.reduceLE, reduceCtorEq, Tryz.f16, hfl, hr, he, hn, hq, c, hf]
@[go_sem] theorem specFind_R (fl : List Field) (rows : List DRow) (ents : List Entry) (nx : Int) (q : Query) (hfl : FSm fl) (hr : RowsM rows) (he : EntSm ents) (hn : -9223372036854775808 ≤ nx ∧ nx ≤ 9223372036854775807) (hq : q.Sm) : R S0 19 [.agg [.sl (fl.map Field.pv), .sl (rows.map DRow.pvF), .sl (ents.map Entry.pvF), .int .i64 nx], .agg [.int .i64 q.kind, .str q.field, .str q.text, .int .i64 q.low, .int .i64 q.high, .sl (q.parts.map pv)]] = some ⟨[none, none], .slo 1 ((findA fl rows ents nx q).map (.int .i64))⟩ := by
  rw [findA]
  cases c1 : indexOkS fl rows ents nx with
  | false =>
    have e : askOk fl rows ents nx q = false := by rw [askOk, c1]; rfl
    rw [e, if_neg (by simp)]
    refine go19 rfl ?_; simp only [go_sem, ↓reduceIte, Nat.reduceAdd, Nat.reduceSub, Nat.reduceEqDiff, Nat.reduceLT, Nat.reduceLeDiff, Nat.reduceMul, Int.reduceNeg, Int.reduceToNat, Int.reduceEq, Int.reduceLT, Int.reduceLE, reduceCtorEq, Tryz.f19, hfl, hr, he, hn, hq, c1]
  | true =>
    cases c2 : (fieldsOk fl && okQ 4 q && fitsI fl q) with
    | false =>
      have e : askOk fl rows ents nx q = false := by rw [askOk, c2]; simp
      rw [e, if_neg (by simp)]
      refine go19 rfl ?_; simp only [go_sem, ↓reduceIte, Nat.reduceAdd, Nat.reduceSub, Nat.reduceEqDiff, Nat.reduceLT, Nat.reduceLeDiff, Nat.reduceMul, Int.reduceNeg, Int.reduceToNat, Int.reduceEq, Int.reduceLT, Int.reduceLE, reduceCtorEq, Tryz.f19, hfl, hr, he, hn, hq, c1, c2]
    | true =>
      have e : askOk fl rows ents nx q = true := by rw [askOk, c1, c2]; rfl
      rw [e, if_pos rfl]
      obtain ⟨_, _, c3⟩ := ask_parts e
      have hf := l6Find_R fl rows ents nx q hfl (indexOk_rows c1) hq 4 c3
      refine go19 rfl ?_; simp only [go_sem, ↓reduceIte, Nat.reduceAdd, Nat.reduceSub, Nat.reduceEqDiff, Nat.reduceLT, Nat.reduceLeDiff, Nat.reduceMul, Int.reduceNeg, Int.reduceToNat, Int.reduceEq, Int.reduceLT, Int.reduceLE, reduceCtorEq, Tryz.f19, hfl, hr, he, hn, hq, c1, c2, hf]
theorem findA_len {fl : List Field} {rows : List DRow} {ents : List Entry} {nx : Int} {q : Query} : (findA fl rows ents nx q).length ≤ 8 := by
  unfold findA
  split
  · rename_i h
    have := (indexOk_rows (ask_parts h).1).1
    have := findS_len fl rows q
    omega
  · simp
end Go.Proofs.YtgnggcpcijcahaaGreatDoor.PVE
namespace Go.Proofs.YtgnggcpcijcahaaGreatDoor.PVE
open PV Query
def allQ : Query := .mk 1 [] [] 0 0 []
theorem allQ_sm : allQ.Sm := .mk _ (by simp [allQ, Query.field]) (by simp [allQ, Query.text]) (by simp [allQ, Query.parts]) (by simp [allQ, Query.parts])
theorem ask_all {fl : List Field} {rows : List DRow} {ents : List Entry} {nx : Int} (h : indexOkS fl rows ents nx = true) : askOk fl rows ents nx allQ = true := by
  have h2 := (indexOk_parts h).2.1
  have h3 : okQ 4 allQ = true := rfl
  have h4 : fitsI fl allQ = true := by simp [allQ, fitsI, fitsIL]
  rw [askOk, h, h2, h3, h4]; rfl
theorem meets_all (fl : List Field) (d : Doc) : meetsM fl d allQ = true := by rw [allQ, meetsM]; simp [leafM, Query.kind]
end Go.Proofs.YtgnggcpcijcahaaGreatDoor.PVE
namespace Go.Proofs.YtgnggcpcijcahaaGreatDoor.PVE
open PV Query
theorem ids_contains {rows : List DRow} (h : rows.Pairwise (fun a b => a.id < b.id)) {p : DRow → Bool} {r : DRow} (hr : r ∈ rows) : ((rows.filter p).map (·.id)).contains r.id = p r := by
  rw [Bool.eq_iff_iff, List.contains_eq_mem, decide_eq_true_eq, List.mem_map]
  constructor
  · rintro ⟨x, hx, he⟩
    obtain ⟨h1, h2⟩ := List.mem_filter.1 hx
    have : x = r := by
      obtain ⟨i, hi, rfl⟩ := List.getElem_of_mem h1
      obtain ⟨j, hj, rfl⟩ := List.getElem_of_mem hr
      have hp := List.pairwise_iff_getElem.1 h
      rcases Nat.lt_trichotomy i j with hij | hij | hij
      · have := hp i j hi hj hij; omega
      · subst hij; rfl
      · have := hp j i hj hi hij; omega
    subst this; exact h2
  · exact fun h => ⟨r, List.mem_filter.2 ⟨hr, h⟩, rfl⟩
def ixOf {α : Type} (f : α → Bool) (l : List α) : Int := if l.any f = true then (l.findIdx f : Nat) else -1
theorem ixOf_at {α : Type} {f : α → Bool} {l : List α} {i : Nat} {x : α} (hI : ∀ y ∈ l.take i, f y = false) (hx : l[i]? = some x) (hf : f x = true) : ixOf f l = i := by
  have := (look_at (p := f) hI hx hf).2
  rw [ixOf, if_pos this.2, this.1]
theorem ixOf_no {α : Type} {f : α → Bool} {l : List α} (hI : ∀ y ∈ l, f y = false) : ixOf f l = -1 := by
  have := (look_no (p := f) hI).2
  rw [ixOf, if_neg (by rw [this]; simp)]
end Go.Proofs.YtgnggcpcijcahaaGreatDoor.PVE
