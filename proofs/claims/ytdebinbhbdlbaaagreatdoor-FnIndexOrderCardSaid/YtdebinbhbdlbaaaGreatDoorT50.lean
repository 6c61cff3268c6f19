/- Sets of numbers: both, either, the one without the other. -/
import Derived.Test.YtdebinbhbdlbaaaGreatDoorTI
set_option linter.unusedVariables false
set_option linter.unusedSimpArgs false
set_option maxRecDepth 100000
namespace Go.Proofs.YtdebinbhbdlbaaaGreatDoor.PVE
open PV Query
@[go_sem] theorem setsOk_R (a b : List Int) (ha : a.length ≤ 1099511627776) (hb : b.length ≤ 1099511627776) : R S0 67 [.sl (a.map (.int .i64)), .sl (b.map (.int .i64))] = some ⟨[none, none], .bool (setOkS a && setOkS b)⟩ := by
  cases h : setOkS a with
  | false => refine go67 rfl ?_; simp only [go_sem, ↓reduceIte, Nat.reduceAdd, Nat.reduceSub, Nat.reduceEqDiff, Nat.reduceLT, Nat.reduceLeDiff, Nat.reduceMul, Int.reduceNeg, Int.reduceToNat, Int.reduceEq, Int.reduceLT, Int.reduceLE, reduceCtorEq, Tryz.f67, ha, hb, h]
  | true => refine go67 rfl ?_; simp only [go_sem, ↓reduceIte, Nat.reduceAdd, Nat.reduceSub, Nat.reduceEqDiff, Nat.reduceLT, Nat.reduceLeDiff, Nat.reduceMul, Int.reduceNeg, Int.reduceToNat, Int.reduceEq, Int.reduceLT, Int.reduceLE, reduceCtorEq, Tryz.f67, ha, hb, h]
@[go_sem] theorem chosen_R (a b : List Int) (c : Bool) (ha : a.length ≤ 1099511627776) (hb : b.length ≤ 1099511627776) : R S0 68 [.sl (a.map (.int .i64)), .sl (b.map (.int .i64)), .bool c] = some ⟨[none, none, none], .slo 1 ((a.filter fun n => b.contains n == c).map (.int .i64))⟩ := by
  refine go68 rfl ?_; simp only [go_sem, ↓reduceIte, Nat.reduceAdd, Nat.reduceSub, Nat.reduceEqDiff, Nat.reduceLT, Nat.reduceLeDiff, Nat.reduceMul, Int.reduceNeg, Int.reduceToNat, Int.reduceEq, Int.reduceLT, Int.reduceLE, reduceCtorEq, Tryz.f68]
  refine ends_for a.length (by omega) (fun i _ => mkSt [(1, .sl (b.map (.int .i64))), (2, .bool c), (7, .own 0), (11, .sl (a.map (.int .i64))), (12, .int .i64 a.length), (13, .int .i64 i)] [.slo 1 (((a.take i).filter fun n => b.contains n == c).map (.int .i64))]) (fun _ _ => True) 0 () (by omega) trivial ?_ ?_
  · rintro i _ hi - hw ih
    obtain ⟨x, hx, hg, _⟩ := drop_get hi default
    have ih' := ih () trivial
    have hle : ((a.take i).filter fun n => b.contains n == c).length ≤ 1099511627776 := by
      have := List.length_filter_le (fun n => b.contains n == c) (a.take i)
      simp only [List.length_take] at this; omega
    rw [List.take_add_one, hx] at ih'
    cases hb2 : (b.contains x == c) with
    | true =>
      rw [show ((a.take i ++ (some x).toList).filter fun n => b.contains n == c) = ((a.take i).filter fun n => b.contains n == c) ++ [x] by rw [List.filter_append]; simp only [Option.toList, List.filter_cons, hb2, List.filter_nil]; rfl] at ih'
      simp only [go_sem, ↓reduceIte, Nat.reduceAdd, Nat.reduceSub, Nat.reduceEqDiff, Nat.reduceLT, Nat.reduceLeDiff, Nat.reduceMul, Int.reduceNeg, Int.reduceToNat, Int.reduceEq, Int.reduceLT, Int.reduceLE, reduceCtorEq, hi, hw, hg, hx, hb2, hb]
      exact ⟨by omega, ih'⟩
    | false =>
      rw [show ((a.take i ++ (some x).toList).filter fun n => b.contains n == c) = (a.take i).filter fun n => b.contains n == c by rw [List.filter_append]; simp only [Option.toList, List.filter_cons, hb2, List.filter_nil]; simp] at ih'
      simp only [go_sem, ↓reduceIte, Nat.reduceAdd, Nat.reduceSub, Nat.reduceEqDiff, Nat.reduceLT, Nat.reduceLeDiff, Nat.reduceMul, Int.reduceNeg, Int.reduceToNat, Int.reduceEq, Int.reduceLT, Int.reduceLE, reduceCtorEq, hi, hw, hg, hx, hb2, hb]
      exact ih'
  · rintro _ -
    rw [List.take_length]
    simp only [go_sem, ↓reduceIte, Nat.reduceAdd, Nat.reduceSub, Nat.reduceEqDiff, Nat.reduceLT, Nat.reduceLeDiff, Nat.reduceMul, Int.reduceNeg, Int.reduceToNat, Int.reduceEq, Int.reduceLT, Int.reduceLE, reduceCtorEq]
theorem setLess_R (a b : List Int) (ha : setOkS a = true) (hb : setOkS b = true) (hal : a.length ≤ 1099511627776) (hbl : b.length ≤ 1099511627776) : R S0 25 [.sl (a.map (.int .i64)), .sl (b.map (.int .i64))] = some ⟨[none, none], .slo 1 ((a.filter fun n => !b.contains n).map (.int .i64))⟩ := by
  have e : (fun n => b.contains n == false) = fun n => !b.contains n := funext fun n => by cases b.contains n <;> rfl
  refine go25 rfl ?_; simp only [go_sem, ↓reduceIte, Nat.reduceAdd, Nat.reduceSub, Nat.reduceEqDiff, Nat.reduceLT, Nat.reduceLeDiff, Nat.reduceMul, Int.reduceNeg, Int.reduceToNat, Int.reduceEq, Int.reduceLT, Int.reduceLE, reduceCtorEq, Tryz.f25, ha, hb, hal, hbl]
  rw [e]
def idsP (rows : List DRow) (p : DRow → Bool) : List Int := (rows.filter p).map (·.id)
theorem idsP_congr {rows : List DRow} {p q : DRow → Bool} (h : ∀ r ∈ rows, p r = q r) : idsP rows p = idsP rows q := by
  rw [idsP, idsP, List.filter_congr h]
theorem idsP_asc {rows : List DRow} (h : rows.Pairwise (fun a b => a.id < b.id)) (p : DRow → Bool) : (idsP rows p).Pairwise (fun a b => a < b) := List.pairwise_map.2 (h.sublist List.filter_sublist)
theorem idsP_mem {rows : List DRow} {p : DRow → Bool} {n : Int} : n ∈ idsP rows p ↔ ∃ r ∈ rows, p r = true ∧ r.id = n := by
  rw [idsP, List.mem_map]
  constructor
  · rintro ⟨r, h1, h2⟩
    exact ⟨r, (List.mem_filter.1 h1).1, (List.mem_filter.1 h1).2, h2⟩
  · rintro ⟨r, h1, h2, h3⟩
    exact ⟨r, List.mem_filter.2 ⟨h1, h2⟩, h3⟩
theorem idsP_succ {rows : List DRow} {p : DRow → Bool} {i : Nat} {x : DRow} (hx : rows[i]? = some x) : idsP (rows.take (i + 1)) p = idsP (rows.take i) p ++ (if p x = true then [x.id] else []) := by
  rw [idsP, List.take_add_one, hx, List.filter_append, List.map_append, idsP]
  congr 1
  cases h : p x <;> simp [h]
theorem idsP_filter {rows : List DRow} {p : DRow → Bool} {g : Int → Bool} : (idsP rows p).filter g = idsP rows fun r => p r && g r.id := by
  rw [idsP, idsP, List.filter_map, List.filter_filter]
  congr 1
  refine List.filter_congr fun r _ => ?_
  simp [Bool.and_comm]
theorem idsP_less {rows : List DRow} (h : rows.Pairwise (fun a b => a.id < b.id)) (p q : DRow → Bool) : ((idsP rows p).filter fun n => !(idsP rows q).contains n) = idsP rows fun r => p r && !q r := by
  rw [idsP_filter]
  exact idsP_congr fun r hr => by rw [idsP, ids_contains h hr]
theorem idsP_ok {fl : List Field} {rows : List DRow} {ents : List Entry} {nx : Int} (h : indexOkS fl rows ents nx = true) (p : DRow → Bool) : setOkS (idsP rows p) = true := by
  obtain ⟨h1, _, h3, h4, _⟩ := indexOk_parts h
  obtain ⟨a1, _, a3⟩ := rowsOk_iff.1 h1
  have e1 : ∀ n ∈ idsP rows p, inB n 0 999999999 = true := by
    intro n hn
    obtain ⟨r, hr, _, rfl⟩ := idsP_mem.1 hn
    have := (a1 r hr).2
    simp only [inB, Bool.and_eq_true, decide_eq_true_eq] at this h4 ⊢
    omega
  have e3 : (idsP rows p).length ≤ 16 := by
    have := List.length_filter_le p rows
    rw [idsP, List.length_map]; omega
  rw [setOkS, decide_eq_true e1, decide_eq_true (idsP_asc a3 p), decide_eq_true e3]; rfl
theorem idsP_len {fl : List Field} {rows : List DRow} {ents : List Entry} {nx : Int} (h : indexOkS fl rows ents nx = true) (p : DRow → Bool) : (idsP rows p).length ≤ 8 := by
  have := (indexOk_parts h).2.2.1
  have := List.length_filter_le p rows
  rw [idsP, List.length_map]; omega
theorem findA_ids {fl : List Field} {rows : List DRow} {ents : List Entry} {nx : Int} {q : Query} (h : askOk fl rows ents nx q = true) : findA fl rows ents nx q = idsP rows fun r => meetsM fl r.doc q := by rw [findA, if_pos h]; rfl
end Go.Proofs.YtdebinbhbdlbaaaGreatDoor.PVE
