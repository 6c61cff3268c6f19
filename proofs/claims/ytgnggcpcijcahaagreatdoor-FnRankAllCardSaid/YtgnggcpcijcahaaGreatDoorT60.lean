/- Scores: the program's, the reference's; a document by its number. -/
import Derived.Test.YtgnggcpcijcahaaGreatDoorT51
set_option linter.unusedVariables false
set_option linter.unusedSimpArgs false
set_option maxRecDepth 100000
namespace Go.Proofs.YtgnggcpcijcahaaGreatDoor.PVE
open PV Query
def idIx (rows : List DRow) (n : Int) : Int := ixOf (fun r : DRow => decide (r.id = n)) rows
@[go_sem] theorem byId1_R (r : DRow) (n : Int) : R S0 93 [.agg [.int .i64 r.id, .str r.doc.key, .sl (r.doc.cells.map Cell.pv)], .pro [.int .i64 n]] = some ⟨[none, none], .bool (decide (r.id = n))⟩ := by
  refine go93 rfl ?_; simp only [go_sem, ↓reduceIte, Nat.reduceAdd, Nat.reduceSub, Nat.reduceEqDiff, Nat.reduceLT, Nat.reduceLeDiff, Nat.reduceMul, Int.reduceNeg, Int.reduceToNat, Int.reduceEq, Int.reduceLT, Int.reduceLE, reduceCtorEq, Tryz.f93]
@[go_sem] theorem indexId_R (rows : List DRow) (n : Int) (hl : rows.length ≤ 1099511627776) : R S0 92 [.sl (rows.map DRow.pvF), .fn 93 [.pro [.int .i64 n]]] = some ⟨[none, none], .int .i64 (idIx rows n)⟩ := by
  refine go92 rfl ?_; simp only [go_sem, ↓reduceIte, Nat.reduceAdd, Nat.reduceSub, Nat.reduceEqDiff, Nat.reduceLT, Nat.reduceLeDiff, Nat.reduceMul, Int.reduceNeg, Int.reduceToNat, Int.reduceEq, Int.reduceLT, Int.reduceLE, reduceCtorEq, Tryz.f92]
  refine ends_for rows.length (by omega) (fun i _ => mkSt [(0, .sl (rows.map DRow.pvF)), (1, .fn 93 [.pro [.int .i64 n]]), (7, .int .i64 rows.length), (8, .int .i64 i)] []) (fun i _ => ∀ y ∈ rows.take i, decide (y.id = n) = false) 0 () (by omega) (by simp) ?_ ?_
  · rintro i _ hi hI hw ih
    obtain ⟨x, hx, hg, hd⟩ := drop_get hi default
    by_cases h : x.id = n
    · have e : idIx rows n = i := ixOf_at (f := fun r : DRow => decide (r.id = n)) hI hx (by simpa using h)
      simp only [go_sem, ↓reduceIte, Nat.reduceAdd, Nat.reduceSub, Nat.reduceEqDiff, Nat.reduceLT, Nat.reduceLeDiff, Nat.reduceMul, Int.reduceNeg, Int.reduceToNat, Int.reduceEq, Int.reduceLT, Int.reduceLE, reduceCtorEq, hi, hw, hg, hx, eq_true h, e]
    · simp only [go_sem, ↓reduceIte, Nat.reduceAdd, Nat.reduceSub, Nat.reduceEqDiff, Nat.reduceLT, Nat.reduceLeDiff, Nat.reduceMul, Int.reduceNeg, Int.reduceToNat, Int.reduceEq, Int.reduceLT, Int.reduceLE, reduceCtorEq, hi, hw, hg, hx, h]
      exact ih () (take_step hI hx (by simpa using h))
  · rintro _ hI
    rw [List.take_length] at hI
    have e : idIx rows n = -1 := ixOf_no (f := fun r : DRow => decide (r.id = n)) hI
    simp only [go_sem, ↓reduceIte, Nat.reduceAdd, Nat.reduceSub, Nat.reduceEqDiff, Nat.reduceLT, Nat.reduceLeDiff, Nat.reduceMul, Int.reduceNeg, Int.reduceToNat, Int.reduceEq, Int.reduceLT, Int.reduceLE, reduceCtorEq, e]
@[go_sem] theorem byId_R (fl : List Field) (rows : List DRow) (ents : List Entry) (nx : Int) (n : Int) (hl : rows.length ≤ 1099511627776) : R S0 42 [.agg [.sl (fl.map Field.pv), .sl (rows.map DRow.pvF), .sl (ents.map Entry.pvF), .int .i64 nx], .int .i64 n] = some ⟨[none, none], .int .i64 (idIx rows n)⟩ := by
  refine go42 rfl ?_; simp only [go_sem, ↓reduceIte, Nat.reduceAdd, Nat.reduceSub, Nat.reduceEqDiff, Nat.reduceLT, Nat.reduceLeDiff, Nat.reduceMul, Int.reduceNeg, Int.reduceToNat, Int.reduceEq, Int.reduceLT, Int.reduceLE, reduceCtorEq, Tryz.f42, hl]
@[go_sem] theorem l7Id_R (rows : List DRow) (n : Int) (hl : rows.length ≤ 1099511627776) : R S0 45 [.sl (rows.map DRow.pvF), .int .i64 n] = some ⟨[none, none], .int .i64 (idIx rows n)⟩ := by
  refine go45 rfl ?_; simp only [go_sem, ↓reduceIte, Nat.reduceAdd, Nat.reduceSub, Nat.reduceEqDiff, Nat.reduceLT, Nat.reduceLeDiff, Nat.reduceMul, Int.reduceNeg, Int.reduceToNat, Int.reduceEq, Int.reduceLT, Int.reduceLE, reduceCtorEq, Tryz.f45]
  refine ends_for rows.length (by omega) (fun i _ => mkSt [(0, .sl (rows.map DRow.pvF)), (1, .int .i64 n), (5, .int .i64 i)] []) (fun i _ => ∀ y ∈ rows.take i, decide (y.id = n) = false) 0 () (by omega) (by simp) ?_ ?_
  · rintro i _ hi hI hw ih
    obtain ⟨x, hx, hg, hd⟩ := drop_get hi default
    by_cases h : x.id = n
    · have e : idIx rows n = i := ixOf_at (f := fun r : DRow => decide (r.id = n)) hI hx (by simpa using h)
      simp only [go_sem, ↓reduceIte, Nat.reduceAdd, Nat.reduceSub, Nat.reduceEqDiff, Nat.reduceLT, Nat.reduceLeDiff, Nat.reduceMul, Int.reduceNeg, Int.reduceToNat, Int.reduceEq, Int.reduceLT, Int.reduceLE, reduceCtorEq, hi, hw, hg, hx, eq_true h, e]
    · simp only [go_sem, ↓reduceIte, Nat.reduceAdd, Nat.reduceSub, Nat.reduceEqDiff, Nat.reduceLT, Nat.reduceLeDiff, Nat.reduceMul, Int.reduceNeg, Int.reduceToNat, Int.reduceEq, Int.reduceLT, Int.reduceLE, reduceCtorEq, hi, hw, hg, hx, h]
      exact ih () (take_step hI hx (by simpa using h))
  · rintro _ hI
    rw [List.take_length] at hI
    have e : idIx rows n = -1 := ixOf_no (f := fun r : DRow => decide (r.id = n)) hI
    simp only [go_sem, ↓reduceIte, Nat.reduceAdd, Nat.reduceSub, Nat.reduceEqDiff, Nat.reduceLT, Nat.reduceLeDiff, Nat.reduceMul, Int.reduceNeg, Int.reduceToNat, Int.reduceEq, Int.reduceLT, Int.reduceLE, reduceCtorEq, e]
theorem idIx_at {rows : List DRow} (hp : rows.Pairwise (fun a b => a.id < b.id)) {r : DRow} (hr : r ∈ rows) : ∃ i : Nat, i < rows.length ∧ idIx rows r.id = i ∧ rows[i]? = some r := by
  obtain ⟨i, hi, rfl⟩ := List.getElem_of_mem hr
  refine ⟨i, hi, ixOf_at (f := fun x : DRow => decide (x.id = rows[i].id)) (fun y hy => ?_) (List.getElem?_eq_getElem hi) (by simp), List.getElem?_eq_getElem hi⟩
  obtain ⟨j, hj, rfl⟩ := List.getElem_of_mem hy
  have hj2 : j < i := by simp only [List.length_take] at hj; omega
  rw [List.getElem_take]
  have := (List.pairwise_iff_getElem.1 hp) j i (by omega) hi hj2
  simp only [decide_eq_false_iff_not]
  omega
theorem idIx_cases (rows : List DRow) (n : Int) : (idIx rows n < 0 ∧ ∀ r ∈ rows, r.id ≠ n) ∨ ∃ i : Nat, ∃ r, i < rows.length ∧ idIx rows n = i ∧ rows[i]? = some r ∧ r.id = n ∧ r ∈ rows := by
  by_cases h : (rows.any fun r => decide (r.id = n)) = true
  · right
    obtain ⟨r, hr, hn⟩ := List.any_eq_true.1 h
    have hlt := List.findIdx_lt_length_of_exists (p := fun r : DRow => decide (r.id = n)) ⟨r, hr, hn⟩
    refine ⟨rows.findIdx fun r => decide (r.id = n), rows[rows.findIdx fun r => decide (r.id = n)], hlt, by rw [idIx, ixOf, if_pos h], List.getElem?_eq_getElem hlt, ?_, List.getElem_mem hlt⟩
    have := List.findIdx_getElem (p := fun r : DRow => decide (r.id = n)) (w := hlt)
    simpa using this
  · left
    refine ⟨by rw [idIx, ixOf, if_neg h]; omega, fun r hr hn => h (List.any_eq_true.2 ⟨r, hr, by simpa using hn⟩)⟩
theorem score_R (fl : List Field) (rows : List DRow) (ents : List Entry) (nx : Int) (d : Doc) (hfl : FSm fl) (hr : RowsD fl rows) (hd : docOk fl d = true) (dp : Nat) : dp ≤ 4 → ∀ q : Query, q.Sm → okQ dp q = true → R S0 44 [.agg [.sl (fl.map Field.pv), .sl (rows.map DRow.pvF), .sl (ents.map Entry.pvF), .int .i64 nx], .agg [.int .i64 q.kind, .str q.field, .str q.text, .int .i64 q.low, .int .i64 q.high, .sl (q.parts.map pv)], .agg [.str d.key, .sl (d.cells.map Cell.pv)]] = some ⟨[none, none, none], .int .i64 (scoreN fl rows d q)⟩ := by
  induction dp with
  | zero => intro _ q _ h; cases h
  | succ dp ih =>
    intro hdp q hq hok
    obtain ⟨hrl, _⟩ := id hr
    obtain ⟨hfl1, _⟩ := id hfl
    obtain ⟨_, hf, ht, hp, hs⟩ := id hq
    obtain ⟨e, he, hn, hps⟩ := okQ_node hok
    obtain rfl : dp = e := by omega
    have hpl := parts_le hn
    have hfin := scoreN_eq fl rows d q
    have h4 : 4 ^ dp ≤ 64 := Nat.pow_le_pow_right (n := 4) (by omega) (show dp ≤ 3 by omega)
    by_cases k78 : q.kind = 7 ∨ q.kind = 8
    · rw [if_pos k78] at hfin
      rw [hfin]
      have hpos : ∀ i, i ≤ q.parts.length → ((q.parts.take i).map (scoreN fl rows d)).sum ≤ 112435200 * 4 := fun i hi => by
        have := sum_le (l := q.parts.take i) (f := scoreN fl rows d) (k := 112435200) fun x hx => by
          have h1 := scoreN_le hd hrl dp x (hps x (List.mem_of_mem_take hx))
          exact Nat.le_trans h1 (Nat.mul_le_mul_left 1756800 h4)
        refine Nat.le_trans this (Nat.mul_le_mul_left _ ?_)
        simp; omega
      by_cases k7 : q.kind = 7
      · refine go44 rfl ?_; simp only [go_sem, ↓reduceIte, Nat.reduceAdd, Nat.reduceSub, Nat.reduceEqDiff, Nat.reduceLT, Nat.reduceLeDiff, Nat.reduceMul, Int.reduceNeg, Int.reduceToNat, Int.reduceEq, Int.reduceLT, Int.reduceLE, reduceCtorEq, Tryz.f44, k7]
        refine ends_for q.parts.length (by omega) (fun i (n : Nat) => mkSt [(3, .addr 0 0 0), (5, .addr 1 0 0), (9, .int .i64 n), (41, .sl (q.parts.map pv)), (42, .int .i64 q.parts.length), (43, .int .i64 i)] [.pto [.sl (fl.map Field.pv), .sl (rows.map DRow.pvF), .sl (ents.map Entry.pvF), .int .i64 nx], .pto [.str d.key, .sl (d.cells.map Cell.pv)]]) (fun i n => n = ((q.parts.take i).map (scoreN fl rows d)).sum) 0 0 (by omega) (by simp) ?_ ?_
        · rintro i n hi hI hw ihl
          obtain ⟨x, hx, hg, _⟩ := drop_get hi default
          have hxm := List.mem_of_getElem? hx
          have hS := ih (by omega) x (hs x hxm) (hps x hxm)
          have hb1 := hpos (i + 1) (by omega)
          have hnext : ((q.parts.take (i + 1)).map (scoreN fl rows d)).sum = n + scoreN fl rows d x := by rw [List.take_add_one, hx, List.map_append, List.sum_append, hI]; simp
          have hw2 : IntKind.i64.wrap ((n : Int) + ((scoreN fl rows d x : Nat) : Int)) = ((n + scoreN fl rows d x : Nat) : Int) := by rw [wrap_in (by omega) (by omega)]; omega
          simp only [go_sem, ↓reduceIte, Nat.reduceAdd, Nat.reduceSub, Nat.reduceEqDiff, Nat.reduceLT, Nat.reduceLeDiff, Nat.reduceMul, Int.reduceNeg, Int.reduceToNat, Int.reduceEq, Int.reduceLT, Int.reduceLE, reduceCtorEq, hi, hw, hg, hx, hS, hw2]
          first | exact ihl _ hnext.symm | exact ⟨by decide +kernel, ihl _ hnext.symm⟩
        · rintro n hI
          rw [List.take_length] at hI
          simp only [go_sem, ↓reduceIte, Nat.reduceAdd, Nat.reduceSub, Nat.reduceEqDiff, Nat.reduceLT, Nat.reduceLeDiff, Nat.reduceMul, Int.reduceNeg, Int.reduceToNat, Int.reduceEq, Int.reduceLT, Int.reduceLE, reduceCtorEq]
          rw [hI]
      · have k8 := k78.resolve_left k7
        refine go44 rfl ?_; simp only [go_sem, ↓reduceIte, Nat.reduceAdd, Nat.reduceSub, Nat.reduceEqDiff, Nat.reduceLT, Nat.reduceLeDiff, Nat.reduceMul, Int.reduceNeg, Int.reduceToNat, Int.reduceEq, Int.reduceLT, Int.reduceLE, reduceCtorEq, Tryz.f44, k8]
        refine ends_for q.parts.length (by omega) (fun i (n : Nat) => mkSt [(3, .addr 0 0 0), (5, .addr 1 0 0), (9, .int .i64 n), (41, .sl (q.parts.map pv)), (42, .int .i64 q.parts.length), (43, .int .i64 i)] [.pto [.sl (fl.map Field.pv), .sl (rows.map DRow.pvF), .sl (ents.map Entry.pvF), .int .i64 nx], .pto [.str d.key, .sl (d.cells.map Cell.pv)]]) (fun i n => n = ((q.parts.take i).map (scoreN fl rows d)).sum) 0 0 (by omega) (by simp) ?_ ?_
        · rintro i n hi hI hw ihl
          obtain ⟨x, hx, hg, _⟩ := drop_get hi default
          have hxm := List.mem_of_getElem? hx
          have hS := ih (by omega) x (hs x hxm) (hps x hxm)
          have hb1 := hpos (i + 1) (by omega)
          have hnext : ((q.parts.take (i + 1)).map (scoreN fl rows d)).sum = n + scoreN fl rows d x := by rw [List.take_add_one, hx, List.map_append, List.sum_append, hI]; simp
          have hw2 : IntKind.i64.wrap ((n : Int) + ((scoreN fl rows d x : Nat) : Int)) = ((n + scoreN fl rows d x : Nat) : Int) := by rw [wrap_in (by omega) (by omega)]; omega
          simp only [go_sem, ↓reduceIte, Nat.reduceAdd, Nat.reduceSub, Nat.reduceEqDiff, Nat.reduceLT, Nat.reduceLeDiff, Nat.reduceMul, Int.reduceNeg, Int.reduceToNat, Int.reduceEq, Int.reduceLT, Int.reduceLE, reduceCtorEq, hi, hw, hg, hx, hS, hw2]
          first | exact ihl _ hnext.symm | exact ⟨by decide +kernel, ihl _ hnext.symm⟩
        · rintro n hI
          rw [List.take_length] at hI
          simp only [go_sem, ↓reduceIte, Nat.reduceAdd, Nat.reduceSub, Nat.reduceEqDiff, Nat.reduceLT, Nat.reduceLeDiff, Nat.reduceMul, Int.reduceNeg, Int.reduceToNat, Int.reduceEq, Int.reduceLT, Int.reduceLE, reduceCtorEq]
          rw [hI]
    · have c7 : ¬ q.kind = 7 := fun e => k78 (.inl e)
      have c8 : ¬ q.kind = 8 := fun e => k78 (.inr e)
      rw [if_neg k78] at hfin
      by_cases k234 : q.kind = 2 ∨ q.kind = 3 ∨ q.kind = 4
      case neg =>
        rw [if_neg k234] at hfin
        have c2 : ¬ q.kind = 2 := fun e => k234 (.inl e)
        have c3 : ¬ q.kind = 3 := fun e => k234 (.inr (.inl e))
        have c4 : ¬ q.kind = 4 := fun e => k234 (.inr (.inr e))
        refine go44 rfl ?_; simp only [go_sem, ↓reduceIte, Nat.reduceAdd, Nat.reduceSub, Nat.reduceEqDiff, Nat.reduceLT, Nat.reduceLeDiff, Nat.reduceMul, Int.reduceNeg, Int.reduceToNat, Int.reduceEq, Int.reduceLT, Int.reduceLE, reduceCtorEq, Tryz.f44, c2, c3, c4, c7, c8]
        rw [hfin]; rfl
      rw [if_pos k234] at hfin
      rw [hfin]
      have hF := find_R fl rows ents nx q hfl hr hq (dp + 1) hok
      have hlen := findS_len fl rows q
      have hwl := weightN_le hd q
      have hls := leafScore_le hd hrl q
      have hW := weight_R fl d q hfl1 hd ht
      by_cases hz : (findS fl rows q).length = 0
      · have hz' : ((findS fl rows q).length : Int) = 0 := by omega
        have e : leafScore fl rows d q = 0 := by rw [leafScore, if_pos hz]
        rw [e]
        by_cases c2 : q.kind = 2
        · refine go44 rfl ?_; simp only [go_sem, ↓reduceIte, Nat.reduceAdd, Nat.reduceSub, Nat.reduceEqDiff, Nat.reduceLT, Nat.reduceLeDiff, Nat.reduceMul, Int.reduceNeg, Int.reduceToNat, Int.reduceEq, Int.reduceLT, Int.reduceLE, reduceCtorEq, Tryz.f44, c7, c8, eq_true c2, hF, hz', hW]
        by_cases c3 : q.kind = 3
        · refine go44 rfl ?_; simp only [go_sem, ↓reduceIte, Nat.reduceAdd, Nat.reduceSub, Nat.reduceEqDiff, Nat.reduceLT, Nat.reduceLeDiff, Nat.reduceMul, Int.reduceNeg, Int.reduceToNat, Int.reduceEq, Int.reduceLT, Int.reduceLE, reduceCtorEq, Tryz.f44, c7, c8, c2, eq_true c3, hF, hz', hW]
        have c4 : q.kind = 4 := by omega
        refine go44 rfl ?_; simp only [go_sem, ↓reduceIte, Nat.reduceAdd, Nat.reduceSub, Nat.reduceEqDiff, Nat.reduceLT, Nat.reduceLeDiff, Nat.reduceMul, Int.reduceNeg, Int.reduceToNat, Int.reduceEq, Int.reduceLT, Int.reduceLE, reduceCtorEq, Tryz.f44, c7, c8, c2, c3, eq_true c4, hF, hz', hW]
      · have hz' : ¬ ((findS fl rows q).length : Int) = 0 := by omega
        have e : leafScore fl rows d q = weightN fl d q * (100 * rows.length / (findS fl rows q).length) := by rw [leafScore, if_neg hz]
        have e1 : IntKind.i64.wrap (100 * (rows.length : Int)) = ((100 * rows.length : Nat) : Int) := by rw [wrap_in (by omega) (by omega)]; omega
        have e2 : ((100 * rows.length : Nat) : Int).tdiv ((findS fl rows q).length : Int) = ((100 * rows.length / (findS fl rows q).length : Nat) : Int) := (Int.ofNat_tdiv _ _).symm
        have hdl : 100 * rows.length / (findS fl rows q).length ≤ 800 := Nat.le_trans (Nat.div_le_self _ _) (by omega)
        have e3 : IntKind.i64.wrap ((100 * rows.length / (findS fl rows q).length : Nat) : Int) = ((100 * rows.length / (findS fl rows q).length : Nat) : Int) := wrap_nat (Nat.le_trans hdl (by omega))
        have e4 : ((weightN fl d q : Nat) : Int) * ((100 * rows.length / (findS fl rows q).length : Nat) : Int) = ((leafScore fl rows d q : Nat) : Int) := by rw [e, Int.natCast_mul]
        have e5 : IntKind.i64.wrap ((leafScore fl rows d q : Nat) : Int) = ((leafScore fl rows d q : Nat) : Int) := wrap_nat (Nat.le_trans hls (by omega))
        by_cases c2 : q.kind = 2
        · refine go44 rfl ?_; simp only [go_sem, ↓reduceIte, Nat.reduceAdd, Nat.reduceSub, Nat.reduceEqDiff, Nat.reduceLT, Nat.reduceLeDiff, Nat.reduceMul, Int.reduceNeg, Int.reduceToNat, Int.reduceEq, Int.reduceLT, Int.reduceLE, reduceCtorEq, Tryz.f44, c7, c8, eq_true c2, hF, hz', hz, hW, e1, e2, e3, e4, e5]
        by_cases c3 : q.kind = 3
        · refine go44 rfl ?_; simp only [go_sem, ↓reduceIte, Nat.reduceAdd, Nat.reduceSub, Nat.reduceEqDiff, Nat.reduceLT, Nat.reduceLeDiff, Nat.reduceMul, Int.reduceNeg, Int.reduceToNat, Int.reduceEq, Int.reduceLT, Int.reduceLE, reduceCtorEq, Tryz.f44, c7, c8, c2, eq_true c3, hF, hz', hz, hW, e1, e2, e3, e4, e5]
        have c4 : q.kind = 4 := by omega
        refine go44 rfl ?_; simp only [go_sem, ↓reduceIte, Nat.reduceAdd, Nat.reduceSub, Nat.reduceEqDiff, Nat.reduceLT, Nat.reduceLeDiff, Nat.reduceMul, Int.reduceNeg, Int.reduceToNat, Int.reduceEq, Int.reduceLT, Int.reduceLE, reduceCtorEq, Tryz.f44, c7, c8, c2, c3, eq_true c4, hF, hz', hz, hW, e1, e2, e3, e4, e5]
def scoreA (fl : List Field) (rows : List DRow) (ents : List Entry) (nx : Int) (q : Query) (n : Int) : Nat := if askOk fl rows ents nx q = true ∧ ¬ idIx rows n < 0 then scoreN fl rows (rows.getD (idIx rows n).toNat default).doc q else 0
theorem scoreA_no {fl : List Field} {rows : List DRow} {ents : List Entry} {nx : Int} {q : Query} {n : Int} (h : askOk fl rows ents nx q = false ∨ idIx rows n < 0) : scoreA fl rows ents nx q n = 0 := by
  rw [scoreA, if_neg]
  rintro ⟨h1, h2⟩
  rcases h with h | h
  · rw [h] at h1; cases h1
  · exact h2 h
theorem scoreA_at {fl : List Field} {rows : List DRow} {ents : List Entry} {nx : Int} {q : Query} {n : Int} {i : Nat} {r : DRow} (h : askOk fl rows ents nx q = true) (hi : idIx rows n = i) (hx : rows[i]? = some r) : scoreA fl rows ents nx q n = scoreN fl rows r.doc q := by
  rw [scoreA, if_pos ⟨h, by omega⟩, hi, Int.toNat_natCast, List.getD_eq_getElem?_getD, hx, Option.getD_some]
theorem implScore_R (fl : List Field) (rows : List DRow) (ents : List Entry) (nx : Int) (q : Query) (n : Int) (hfl : FSm fl) (hr : RowsM rows) (he : EntSm ents) (hn : -9223372036854775808 ≤ nx ∧ nx ≤ 9223372036854775807) (hq : q.Sm) : R S0 11 [.agg [.sl (fl.map Field.pv), .sl (rows.map DRow.pvF), .sl (ents.map Entry.pvF), .int .i64 nx], .agg [.int .i64 q.kind, .str q.field, .str q.text, .int .i64 q.low, .int .i64 q.high, .sl (q.parts.map pv)], .int .i64 n] = some ⟨[none, none, none], .int .i64 (scoreA fl rows ents nx q n)⟩ := by
  have hl : rows.length ≤ 1099511627776 := hr.1
  cases c : askOk fl rows ents nx q with
  | false =>
    rw [scoreA_no (.inl c)]
    refine go11 rfl ?_; simp only [go_sem, ↓reduceIte, Nat.reduceAdd, Nat.reduceSub, Nat.reduceEqDiff, Nat.reduceLT, Nat.reduceLeDiff, Nat.reduceMul, Int.reduceNeg, Int.reduceToNat, Int.reduceEq, Int.reduceLT, Int.reduceLE, reduceCtorEq, Tryz.f11, hfl, hr, he, hn, hq, hl, c]
  | true =>
    rcases idIx_cases rows n with ⟨h1, _⟩ | ⟨i, r, hi, h1, hx, _, hrm⟩
    · rw [scoreA_no (.inr h1)]
      refine go11 rfl ?_; simp only [go_sem, ↓reduceIte, Nat.reduceAdd, Nat.reduceSub, Nat.reduceEqDiff, Nat.reduceLT, Nat.reduceLeDiff, Nat.reduceMul, Int.reduceNeg, Int.reduceToNat, Int.reduceEq, Int.reduceLT, Int.reduceLE, reduceCtorEq, Tryz.f11, hfl, hr, he, hn, hq, hl, c, h1]
    · obtain ⟨c1, c2, c3⟩ := ask_parts c
      rw [scoreA_at c h1 hx]
      obtain ⟨x, hx2, hg, _⟩ := drop_get hi default
      rw [hx] at hx2
      obtain rfl := Option.some.inj hx2
      have hD := indexOk_rows c1
      have hS := score_R fl rows ents nx r.doc hfl hD (hD.2 r hrm) 4 (by omega) q hq c3
      refine go11 rfl ?_; simp only [go_sem, ↓reduceIte, Nat.reduceAdd, Nat.reduceSub, Nat.reduceEqDiff, Nat.reduceLT, Nat.reduceLeDiff, Nat.reduceMul, Int.reduceNeg, Int.reduceToNat, Int.reduceEq, Int.reduceLT, Int.reduceLE, reduceCtorEq, Tryz.f11, hfl, hr, he, hn, hq, hl, c, h1, hi, hx, hg, hS]
      omega
theorem specScore_R (fl : List Field) (rows : List DRow) (ents : List Entry) (nx : Int) (q : Query) (n : Int) (hfl : FSm fl) (hr : RowsM rows) (he : EntSm ents) (hn : -9223372036854775808 ≤ nx ∧ nx ≤ 9223372036854775807) (hq : q.Sm) : R S0 12 [.agg [.sl (fl.map Field.pv), .sl (rows.map DRow.pvF), .sl (ents.map Entry.pvF), .int .i64 nx], .agg [.int .i64 q.kind, .str q.field, .str q.text, .int .i64 q.low, .int .i64 q.high, .sl (q.parts.map pv)], .int .i64 n] = some ⟨[none, none, none], .int .i64 (scoreA fl rows ents nx q n)⟩ := by
  have hl : rows.length ≤ 1099511627776 := hr.1
  cases k1 : indexOkS fl rows ents nx with
  | false =>
    rw [scoreA_no (.inl (by rw [askOk, k1]; rfl))]
    refine go12 rfl ?_; simp only [go_sem, ↓reduceIte, Nat.reduceAdd, Nat.reduceSub, Nat.reduceEqDiff, Nat.reduceLT, Nat.reduceLeDiff, Nat.reduceMul, Int.reduceNeg, Int.reduceToNat, Int.reduceEq, Int.reduceLT, Int.reduceLE, reduceCtorEq, Tryz.f12, hfl, hr, he, hn, hq, hl, k1]
  | true =>
  cases k2 : (fieldsOk fl && okQ 4 q && fitsI fl q) with
  | false =>
    rw [scoreA_no (.inl (by rw [askOk, k2]; simp))]
    refine go12 rfl ?_; simp only [go_sem, ↓reduceIte, Nat.reduceAdd, Nat.reduceSub, Nat.reduceEqDiff, Nat.reduceLT, Nat.reduceLeDiff, Nat.reduceMul, Int.reduceNeg, Int.reduceToNat, Int.reduceEq, Int.reduceLT, Int.reduceLE, reduceCtorEq, Tryz.f12, hfl, hr, he, hn, hq, hl, k1, k2]
  | true =>
    have c : askOk fl rows ents nx q = true := ask_of k1 k2
    rcases idIx_cases rows n with ⟨h1, _⟩ | ⟨i, r, hi, h1, hx, _, hrm⟩
    · rw [scoreA_no (.inr h1)]
      refine go12 rfl ?_; simp only [go_sem, ↓reduceIte, Nat.reduceAdd, Nat.reduceSub, Nat.reduceEqDiff, Nat.reduceLT, Nat.reduceLeDiff, Nat.reduceMul, Int.reduceNeg, Int.reduceToNat, Int.reduceEq, Int.reduceLT, Int.reduceLE, reduceCtorEq, Tryz.f12, hfl, hr, he, hn, hq, hl, k1, k2, h1]
    · obtain ⟨c1, c2, c3⟩ := ask_parts c
      rw [scoreA_at c h1 hx]
      obtain ⟨x, hx2, hg, _⟩ := drop_get hi default
      rw [hx] at hx2
      obtain rfl := Option.some.inj hx2
      have hD := indexOk_rows c1
      have hS := l7Score_R fl rows ents nx r.doc hfl hD (hD.2 r hrm) 4 (by omega) q hq c3
      refine go12 rfl ?_; simp only [go_sem, ↓reduceIte, Nat.reduceAdd, Nat.reduceSub, Nat.reduceEqDiff, Nat.reduceLT, Nat.reduceLeDiff, Nat.reduceMul, Int.reduceNeg, Int.reduceToNat, Int.reduceEq, Int.reduceLT, Int.reduceLE, reduceCtorEq, Tryz.f12, hfl, hr, he, hn, hq, hl, k1, k2, h1, hi, hx, hg, hS]
      omega
end Go.Proofs.YtgnggcpcijcahaaGreatDoor.PVE
