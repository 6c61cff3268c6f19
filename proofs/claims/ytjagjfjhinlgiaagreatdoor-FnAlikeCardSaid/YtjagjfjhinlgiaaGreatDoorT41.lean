/- Comparisons of what is the same; drawn numbers and keys; the law of keys. -/
import Derived.Test.YtjagjfjhinlgiaaGreatDoorT40
set_option linter.unusedVariables false
set_option linter.unusedSimpArgs false
set_option maxRecDepth 100000
namespace Go.Proofs.YtjagjfjhinlgiaaGreatDoor.PVE
open PV Query
@[go_sem] theorem sdIn_R (l : List Int) (s : Int) (hl : l.length ≤ 1099511627776) : R S0 21 [.sl (l.map (PV.int .i64)), .int .i64 s] = some ⟨[none, none], .bool (l.contains s)⟩ := by
  refine go21 rfl ?_; simp only [go_sem, ↓reduceIte, Nat.reduceAdd, Nat.reduceSub, Nat.reduceEqDiff, Nat.reduceLT, Nat.reduceLeDiff, Nat.reduceMul, Int.reduceNeg, Int.reduceToNat, Int.reduceEq, Int.reduceLT, Int.reduceLE, reduceCtorEq, Tryz.f21]
  refine ends_for l.length (by omega) (fun i _ => mkSt [(0, .sl (l.map (PV.int .i64))), (1, .int .i64 s), (5, .int .i64 i)] []) (fun i _ => s ∉ l.take i) 0 () (by omega) (by simp) ?_ ?_
  · intro i _ hi hI hw ih
    obtain ⟨x, hx, hg, hd⟩ := drop_get hi default
    have hlx : l = l.take i ++ x :: l.drop (i + 1) := by rw [← hd, List.take_append_drop]
    by_cases h : x = s
    · have h1 : l.contains s = true := by rw [hlx, h]; simp
      simp only [go_sem, ↓reduceIte, Nat.reduceAdd, Nat.reduceSub, Nat.reduceEqDiff, Nat.reduceLT, Nat.reduceLeDiff, Nat.reduceMul, Int.reduceNeg, Int.reduceToNat, Int.reduceEq, Int.reduceLT, Int.reduceLE, reduceCtorEq, hi, hw, hg, h, h1]
    · have ih' := ih () (by rw [List.take_add_one, hx]; simp [hI, Ne.symm h])
      simp only [go_sem, ↓reduceIte, Nat.reduceAdd, Nat.reduceSub, Nat.reduceEqDiff, Nat.reduceLT, Nat.reduceLeDiff, Nat.reduceMul, Int.reduceNeg, Int.reduceToNat, Int.reduceEq, Int.reduceLT, Int.reduceLE, reduceCtorEq, hi, hw, hg, h]
      exact ih'
  · intro _ hI
    have h1 : l.contains s = false := by simp at hI; simp [hI]
    simp only [go_sem, ↓reduceIte, Nat.reduceAdd, Nat.reduceSub, Nat.reduceEqDiff, Nat.reduceLT, Nat.reduceLeDiff, Nat.reduceMul, Int.reduceNeg, Int.reduceToNat, Int.reduceEq, Int.reduceLT, Int.reduceLE, reduceCtorEq, h1]
@[go_sem] theorem sdInts_R (a : List Int) (ha : a.length ≤ 1099511627776) : R S0 24 [.sl (a.map (PV.int .i64)), .sl (a.map (PV.int .i64))] = some ⟨[none, none], .bool true⟩ := by
  refine go24 rfl ?_; simp only [go_sem, ↓reduceIte, Nat.reduceAdd, Nat.reduceSub, Nat.reduceEqDiff, Nat.reduceLT, Nat.reduceLeDiff, Nat.reduceMul, Int.reduceNeg, Int.reduceToNat, Int.reduceEq, Int.reduceLT, Int.reduceLE, reduceCtorEq, Tryz.f24]
  refine ends_for a.length (by omega) (fun i _ => mkSt [(0, .sl (a.map (PV.int .i64))), (1, .sl (a.map (PV.int .i64))), (5, .int .i64 i)] []) (fun _ _ => True) 0 () (by omega) trivial ?_ ?_
  · rintro i _ hi - hw ih
    obtain ⟨x, hx, hg, hd⟩ := drop_get hi default
    have ih' := ih () trivial
    simp only [go_sem, ↓reduceIte, Nat.reduceAdd, Nat.reduceSub, Nat.reduceEqDiff, Nat.reduceLT, Nat.reduceLeDiff, Nat.reduceMul, Int.reduceNeg, Int.reduceToNat, Int.reduceEq, Int.reduceLT, Int.reduceLE, reduceCtorEq, hi, hw, hg, hx]
    exact ih'
  · rintro _ -
    simp only [go_sem, ↓reduceIte, Nat.reduceAdd, Nat.reduceSub, Nat.reduceEqDiff, Nat.reduceLT, Nat.reduceLeDiff, Nat.reduceMul, Int.reduceNeg, Int.reduceToNat, Int.reduceEq, Int.reduceLT, Int.reduceLE, reduceCtorEq]
@[go_sem] theorem sdFieldsI_R (a : List Field) (ha : a.length ≤ 1099511627776) : R S0 70 [.sl (a.map Field.pv), .sl (a.map Field.pv)] = some ⟨[none, none], .bool true⟩ := by
  refine go70 rfl ?_; simp only [go_sem, ↓reduceIte, Nat.reduceAdd, Nat.reduceSub, Nat.reduceEqDiff, Nat.reduceLT, Nat.reduceLeDiff, Nat.reduceMul, Int.reduceNeg, Int.reduceToNat, Int.reduceEq, Int.reduceLT, Int.reduceLE, reduceCtorEq, Tryz.f70]
  refine ends_for a.length (by omega) (fun i _ => mkSt [(0, .sl (a.map Field.pv)), (1, .sl (a.map Field.pv)), (5, .int .i64 i)] []) (fun _ _ => True) 0 () (by omega) trivial ?_ ?_
  · rintro i _ hi - hw ih
    obtain ⟨x, hx, hg, hd⟩ := drop_get hi default
    have ih' := ih () trivial
    simp only [go_sem, ↓reduceIte, Nat.reduceAdd, Nat.reduceSub, Nat.reduceEqDiff, Nat.reduceLT, Nat.reduceLeDiff, Nat.reduceMul, Int.reduceNeg, Int.reduceToNat, Int.reduceEq, Int.reduceLT, Int.reduceLE, reduceCtorEq, hi, hw, hg, hx]
    exact ih'
  · rintro _ -
    simp only [go_sem, ↓reduceIte, Nat.reduceAdd, Nat.reduceSub, Nat.reduceEqDiff, Nat.reduceLT, Nat.reduceLeDiff, Nat.reduceMul, Int.reduceNeg, Int.reduceToNat, Int.reduceEq, Int.reduceLT, Int.reduceLE, reduceCtorEq]
@[go_sem] theorem sdDocI_R (d : Doc) (hd : d.cells.length ≤ 1099511627776) : R S0 33 [.agg [.str d.key, .sl (d.cells.map Cell.pv)], .agg [.str d.key, .sl (d.cells.map Cell.pv)]] = some ⟨[none, none], .bool true⟩ := by
  refine go33 rfl ?_; simp only [go_sem, ↓reduceIte, Nat.reduceAdd, Nat.reduceSub, Nat.reduceEqDiff, Nat.reduceLT, Nat.reduceLeDiff, Nat.reduceMul, Int.reduceNeg, Int.reduceToNat, Int.reduceEq, Int.reduceLT, Int.reduceLE, reduceCtorEq, Tryz.f33]
  refine ends_for d.cells.length (by omega) (fun i _ => mkSt [(2, .addr 0 0 0), (3, .addr 1 0 0), (5, .int .i64 i)] [.pto [.str d.key, .sl (d.cells.map Cell.pv)], .pto [.str d.key, .sl (d.cells.map Cell.pv)]]) (fun _ _ => True) 0 () (by omega) trivial ?_ ?_
  · rintro i _ hi - hw ih
    obtain ⟨x, hx, hg, hd⟩ := drop_get hi default
    have ih' := ih () trivial
    simp only [go_sem, ↓reduceIte, Nat.reduceAdd, Nat.reduceSub, Nat.reduceEqDiff, Nat.reduceLT, Nat.reduceLeDiff, Nat.reduceMul, Int.reduceNeg, Int.reduceToNat, Int.reduceEq, Int.reduceLT, Int.reduceLE, reduceCtorEq, hi, hw, hg, hx]
    exact ih'
  · rintro _ -
    simp only [go_sem, ↓reduceIte, Nat.reduceAdd, Nat.reduceSub, Nat.reduceEqDiff, Nat.reduceLT, Nat.reduceLeDiff, Nat.reduceMul, Int.reduceNeg, Int.reduceToNat, Int.reduceEq, Int.reduceLT, Int.reduceLE, reduceCtorEq]
@[go_sem] theorem sdPostsI_R (a : List Post) (ha : a.length ≤ 1099511627776) (hp : ∀ p ∈ a, p.ats.length ≤ 1099511627776) : R S0 71 [.sl (a.map Post.pvF), .sl (a.map Post.pvF)] = some ⟨[none, none], .bool true⟩ := by
  refine go71 rfl ?_; simp only [go_sem, ↓reduceIte, Nat.reduceAdd, Nat.reduceSub, Nat.reduceEqDiff, Nat.reduceLT, Nat.reduceLeDiff, Nat.reduceMul, Int.reduceNeg, Int.reduceToNat, Int.reduceEq, Int.reduceLT, Int.reduceLE, reduceCtorEq, Tryz.f71]
  refine ends_for a.length (by omega) (fun i _ => mkSt [(0, .sl (a.map Post.pvF)), (1, .sl (a.map Post.pvF)), (5, .int .i64 i)] []) (fun _ _ => True) 0 () (by omega) trivial ?_ ?_
  · rintro i _ hi - hw ih
    obtain ⟨x, hx, hg, hd⟩ := drop_get hi default
    have hxp := hp x (List.mem_of_getElem? hx)
    have ih' := ih () trivial
    simp only [go_sem, ↓reduceIte, Nat.reduceAdd, Nat.reduceSub, Nat.reduceEqDiff, Nat.reduceLT, Nat.reduceLeDiff, Nat.reduceMul, Int.reduceNeg, Int.reduceToNat, Int.reduceEq, Int.reduceLT, Int.reduceLE, reduceCtorEq, hi, hw, hg, hx, hxp]
    exact ih'
  · rintro _ -
    simp only [go_sem, ↓reduceIte, Nat.reduceAdd, Nat.reduceSub, Nat.reduceEqDiff, Nat.reduceLT, Nat.reduceLeDiff, Nat.reduceMul, Int.reduceNeg, Int.reduceToNat, Int.reduceEq, Int.reduceLT, Int.reduceLE, reduceCtorEq]
@[go_sem] theorem sdIndexI_R (fl : List Field) (rows : List DRow) (ents : List Entry) (nx : Int) (hfl : fl.length ≤ 1099511627776) (hr : RowsM rows) (he : EntSm ents) : R S0 29 [.agg [.sl (fl.map Field.pv), .sl (rows.map DRow.pvF), .sl (ents.map Entry.pvF), .int .i64 nx], .agg [.sl (fl.map Field.pv), .sl (rows.map DRow.pvF), .sl (ents.map Entry.pvF), .int .i64 nx]] = some ⟨[none, none], .bool true⟩ := by
  obtain ⟨hrl, hrs⟩ := id hr
  obtain ⟨hel, hes⟩ := id he
  refine go29 rfl ?_; simp only [go_sem, ↓reduceIte, Nat.reduceAdd, Nat.reduceSub, Nat.reduceEqDiff, Nat.reduceLT, Nat.reduceLeDiff, Nat.reduceMul, Int.reduceNeg, Int.reduceToNat, Int.reduceEq, Int.reduceLT, Int.reduceLE, reduceCtorEq, Tryz.f29, hfl]
  refine ends_for rows.length (by omega) (fun i _ => mkSt [(2, .addr 0 0 0), (3, .addr 1 0 0), (5, .int .i64 i)] [.pto [.sl (fl.map Field.pv), .sl (rows.map DRow.pvF), .sl (ents.map Entry.pvF), .int .i64 nx], .pto [.sl (fl.map Field.pv), .sl (rows.map DRow.pvF), .sl (ents.map Entry.pvF), .int .i64 nx]]) (fun _ _ => True) 0 () (by omega) trivial ?_ ?_
  · rintro i _ hi - hw ih
    obtain ⟨x, hx, hg, hd⟩ := drop_get hi default
    obtain ⟨_, hxp, _⟩ := hrs x (List.mem_of_getElem? hx)
    have ih' := ih () trivial
    simp only [go_sem, ↓reduceIte, Nat.reduceAdd, Nat.reduceSub, Nat.reduceEqDiff, Nat.reduceLT, Nat.reduceLeDiff, Nat.reduceMul, Int.reduceNeg, Int.reduceToNat, Int.reduceEq, Int.reduceLT, Int.reduceLE, reduceCtorEq, hi, hw, hg, hx, hxp]
    exact ih'
  · rintro _ -
    simp only [go_sem, ↓reduceIte, Nat.reduceAdd, Nat.reduceSub, Nat.reduceEqDiff, Nat.reduceLT, Nat.reduceLeDiff, Nat.reduceMul, Int.reduceNeg, Int.reduceToNat, Int.reduceEq, Int.reduceLT, Int.reduceLE, reduceCtorEq]
    refine ends_for ents.length (by omega) (fun i _ => mkSt [(2, .addr 0 0 0), (3, .addr 1 0 0), (6, .int .i64 i)] [.pto [.sl (fl.map Field.pv), .sl (rows.map DRow.pvF), .sl (ents.map Entry.pvF), .int .i64 nx], .pto [.sl (fl.map Field.pv), .sl (rows.map DRow.pvF), .sl (ents.map Entry.pvF), .int .i64 nx]]) (fun _ _ => True) 0 () (by omega) trivial ?_ ?_
    · rintro i _ hi - hw ih
      obtain ⟨x, hx, hg, hd⟩ := drop_get hi default
      obtain ⟨hxp, hxq⟩ := hes x (List.mem_of_getElem? hx)
      have ih' := ih () trivial
      have hP := sdPostsI_R x.posts hxp hxq
      simp only [go_sem, ↓reduceIte, Nat.reduceAdd, Nat.reduceSub, Nat.reduceEqDiff, Nat.reduceLT, Nat.reduceLeDiff, Nat.reduceMul, Int.reduceNeg, Int.reduceToNat, Int.reduceEq, Int.reduceLT, Int.reduceLE, reduceCtorEq, hi, hw, hg, hx, hP]
      exact ih'
    · rintro _ -
      simp only [go_sem, ↓reduceIte, Nat.reduceAdd, Nat.reduceSub, Nat.reduceEqDiff, Nat.reduceLT, Nat.reduceLeDiff, Nat.reduceMul, Int.reduceNeg, Int.reduceToNat, Int.reduceEq, Int.reduceLT, Int.reduceLE, reduceCtorEq]
def IdsPost (b : Str) (p c m : Nat) (r : Ans) : Prop := ∃ ids : List Int, ∃ p' : Nat, r = ⟨[some (.pto [.sl (b.map bytePV), .int .i64 (p' : Nat)]), none], .slo 1 (ids.map (PV.int .i64))⟩ ∧ p ≤ p' ∧ p' ≤ p + c ∧ ids.length ≤ m
theorem ids_ex (fl : List Field) (rows : List DRow) (ents : List Entry) (nx : Int) (hr : rows.length ≤ 21) (b : Str) (p : Nat) (hp : p + 100 ≤ 1099511627776) (hb : b.length ≤ 2000) : ∃ r, R S0 58 [.pto [.sl (b.map bytePV), .int .i64 p], .agg [.sl (fl.map Field.pv), .sl (rows.map DRow.pvF), .sl (ents.map Entry.pvF), .int .i64 nx]] = some r ∧ IdsPost b p 25 22 r := by
  refine (fun ⟨r, h, hp⟩ => ⟨r, go58 rfl h, hp⟩ : (∃ r, Ends S0 _ _ r ∧ _) → _) ?_
  simp only [go_sem, ↓reduceIte, Nat.reduceAdd, Nat.reduceSub, Nat.reduceEqDiff, Nat.reduceLT, Nat.reduceLeDiff, Nat.reduceMul, Int.reduceNeg, Int.reduceToNat, Int.reduceEq, Int.reduceLT, Int.reduceLE, reduceCtorEq, Tryz.f58, hb, ex_if, ex_bool, ex_and, ex_eq]
  refine ends_wx (fun x : Nat × Nat × List Int => rows.length - x.1) (fun x => mkSt [(0, .addr 0 0 0), (3, .addr 1 0 0), (5, .own 2), (6, .int .i64 (x.1 : Nat)), (1000000, .addr 0 0 0)] [.pto [.sl (b.map bytePV), .int .i64 (x.2.1 : Nat)], .pto [.sl (fl.map Field.pv), .sl (rows.map DRow.pvF), .sl (ents.map Entry.pvF), .int .i64 nx], .slo 1 (x.2.2.map (PV.int .i64))])
    (fun x => x.1 ≤ rows.length ∧ p ≤ x.2.1 ∧ x.2.1 ≤ p + x.1 ∧ x.2.2.length ≤ x.1) (0, p, []) ⟨by simp only; omega, by simp only; omega, by simp only; omega, by simp⟩ ?_
  rintro ⟨i, p2, ids⟩ ⟨k1, k2, k3, k4⟩ ihl
  simp only at k1 k2 k3 k4
  have hm2 := more (p := p2) (by omega)
  have hl : ids.length ≤ 1099511627776 := by omega
  by_cases hi : i < rows.length
  · obtain ⟨x, hx, hg, _⟩ := drop_get hi default
    have hi' : (i : Int) < (rows.length : Int) := by omega
    have hw : IntKind.i64.wrap ((i : Int) + 1) = ((i + 1 : Nat) : Int) := by rw [wrap_in (by omega) (by omega)]; omega
    by_cases c : 0 < pickV b p2 3
    · simp only [go_sem, ↓reduceIte, Nat.reduceAdd, Nat.reduceSub, Nat.reduceEqDiff, Nat.reduceLT, Nat.reduceLeDiff, Nat.reduceMul, Int.reduceNeg, Int.reduceToNat, Int.reduceEq, Int.reduceLT, Int.reduceLE, reduceCtorEq, hi, hi', hw, hg, hx, hb, hm2, c, ex_if, ex_bool, ex_and, ex_eq]
      exact ⟨by omega, ihl (i + 1, p2 + 1, _) (by simp only; omega) ⟨by simp only; omega, by simp only; omega, by simp only; omega, by simp; omega⟩⟩
    · simp only [go_sem, ↓reduceIte, Nat.reduceAdd, Nat.reduceSub, Nat.reduceEqDiff, Nat.reduceLT, Nat.reduceLeDiff, Nat.reduceMul, Int.reduceNeg, Int.reduceToNat, Int.reduceEq, Int.reduceLT, Int.reduceLE, reduceCtorEq, hi, hi', hw, hg, hx, hb, hm2, c, ex_if, ex_bool, ex_and, ex_eq]
      exact ihl (i + 1, p2 + 1, _) (by simp only; omega) ⟨by simp only; omega, by simp only; omega, by simp only; omega, by simp only; omega⟩
  · have hi' : ¬ (i : Int) < (rows.length : Int) := by omega
    by_cases c : pickV b p2 5 = 0
    · simp only [go_sem, ↓reduceIte, Nat.reduceAdd, Nat.reduceSub, Nat.reduceEqDiff, Nat.reduceLT, Nat.reduceLeDiff, Nat.reduceMul, Int.reduceNeg, Int.reduceToNat, Int.reduceEq, Int.reduceLT, Int.reduceLE, reduceCtorEq, hi', hb, hm2, c, ex_if, ex_bool, ex_and, ex_eq]
      exact ⟨by omega, _, _, rfl, by omega, by omega, by simp; omega⟩
    · simp only [go_sem, ↓reduceIte, Nat.reduceAdd, Nat.reduceSub, Nat.reduceEqDiff, Nat.reduceLT, Nat.reduceLeDiff, Nat.reduceMul, Int.reduceNeg, Int.reduceToNat, Int.reduceEq, Int.reduceLT, Int.reduceLE, reduceCtorEq, hi', hb, hm2, c, ex_if, ex_bool, ex_and, ex_eq]
      exact ⟨_, _, rfl, by omega, by omega, by omega⟩
def DKPost (r : Ans) : Prop := ∃ fl : List Field, ∃ rows : List DRow, ∃ ents : List Entry, ∃ nx : Int, ∃ ids : List Int, r = ⟨[none], .tup [.agg [.sl (fl.map Field.pv), .sl (rows.map DRow.pvF), .sl (ents.map Entry.pvF), .int .i64 nx], .sl (ids.map (PV.int .i64))]⟩ ∧ FSm fl ∧ RowsS 21 5 rows ∧ EntSm ents ∧ -1 ≤ nx ∧ nx ≤ 999999999 ∧ ids.length ≤ 22
theorem drawKeys_ex (b : Str) : ∃ r, R S0 17 [.sl (b.map bytePV)] = some r ∧ DKPost r := by
  have hb : (b.take 2000).length ≤ 2000 := by simp; omega
  obtain ⟨r1, hr1, fl, rows, ents, nx, p1, rfl, h1, h2, hfl, hrs, hes, hn1, hn2⟩ := anyIndex_ex (b.take 2000) 0 (by omega) hb
  obtain ⟨r2, hr2, ids, p2, rfl, h3, h4, h5⟩ := ids_ex fl rows ents nx hrs.1 (b.take 2000) p1 (by omega) hb
  rw [show ((0 : Nat) : Int) = 0 from rfl] at hr1
  refine (fun ⟨r, h, hp⟩ => ⟨r, go17 rfl h, hp⟩ : (∃ r, Ends S0 _ _ r ∧ _) → _) ?_
  simp only [go_sem, ↓reduceIte, Nat.reduceAdd, Nat.reduceSub, Nat.reduceEqDiff, Nat.reduceLT, Nat.reduceLeDiff, Nat.reduceMul, Int.reduceNeg, Int.reduceToNat, Int.reduceEq, Int.reduceLT, Int.reduceLE, reduceCtorEq, Tryz.f17, hr1, hr2, hb, ex_if, ex_bool, ex_and, ex_eq]
  exact ⟨by decide +kernel, fl, rows, ents, nx, ids, rfl, hfl, hrs, hes, hn1, hn2, h5⟩
theorem filtM_at {α β : Type} {p : α → Bool} {f : α → β} {rows : List α} {i : Nat} {x : α} (hx : rows[i]? = some x) (hp : p x = true) : ((rows.filter p).map f)[((rows.take i).filter p).length]? = some (f x) := by
  have hi : i < rows.length := by
    rcases Nat.lt_or_ge i rows.length with h | h
    · exact h
    · rw [List.getElem?_eq_none h] at hx; cases hx
  have hx2 : rows[i] = x := by rw [List.getElem?_eq_getElem hi] at hx; exact Option.some.inj hx
  have e : rows = rows.take i ++ x :: rows.drop (i + 1) := by
    rw [← hx2, ← List.drop_eq_getElem_cons hi, List.take_append_drop]
  conv => lhs; lhs; rw [e]
  rw [List.filter_append, List.filter_cons_of_pos hp, List.map_append, List.getElem?_append_right (by simp)]
  simp
theorem filtM_lt {α β : Type} {p : α → Bool} {f : α → β} {rows : List α} {i : Nat} {x : α} (hx : rows[i]? = some x) (hp : p x = true) : ((rows.take i).filter p).length < ((rows.filter p).map f).length := by
  have := filtM_at (f := f) hx hp
  rcases Nat.lt_or_ge ((rows.take i).filter p).length ((rows.filter p).map f).length with h | h
  · exact h
  · rw [List.getElem?_eq_none h] at this; cases this
@[go_sem] theorem FnKeys_R (b : Str) (hb : b.length ≤ 9223372036854775807) : R S0 4 [.sl (b.map bytePV)] = some ⟨[none], .bool true⟩ := by
  by_cases h : 1048576 < (b.length : Int)
  · refine go4 rfl ?_; simp only [go_sem, ↓reduceIte, Nat.reduceAdd, Nat.reduceSub, Nat.reduceEqDiff, Nat.reduceLT, Nat.reduceLeDiff, Nat.reduceMul, Int.reduceNeg, Int.reduceToNat, Int.reduceEq, Int.reduceLT, Int.reduceLE, reduceCtorEq, Tryz.f4, h]
  obtain ⟨r, hr, fl, rows, ents, nx, ids, rfl, hfl, hrs, hes, hn1, hn2, hil⟩ := drawKeys_ex b
  have hm := hrs.sm (by omega) (by omega)
  have hn : -9223372036854775807 ≤ nx ∧ nx ≤ 9223372036854775807 := by omega
  have hib : ids.length ≤ 1099511627776 := by omega
  have hkl : (keysS fl rows ents nx ids).length ≤ 1099511627776 := by
    rw [keysS]; split
    · rw [List.length_map]; have := List.length_filter_le (fun r : DRow => ids.contains r.id) rows; have := hm.1; omega
    · simp
  cases hok : indexOkS fl rows ents nx with
  | false => refine go4 rfl ?_; simp only [go_sem, ↓reduceIte, Nat.reduceAdd, Nat.reduceSub, Nat.reduceEqDiff, Nat.reduceLT, Nat.reduceLeDiff, Nat.reduceMul, Int.reduceNeg, Int.reduceToNat, Int.reduceEq, Int.reduceLT, Int.reduceLE, reduceCtorEq, Tryz.f4, h, hr, hfl, hm, hes, hn, hib, hkl, hok]
  | true =>
    have hrl : rows.length ≤ 21 := hrs.1
    refine go4 rfl ?_; simp only [go_sem, ↓reduceIte, Nat.reduceAdd, Nat.reduceSub, Nat.reduceEqDiff, Nat.reduceLT, Nat.reduceLeDiff, Nat.reduceMul, Int.reduceNeg, Int.reduceToNat, Int.reduceEq, Int.reduceLT, Int.reduceLE, reduceCtorEq, Tryz.f4, h, hr, hfl, hm, hes, hn, hib, hkl, hok]
    rw [keysS, if_pos hok]
    refine ends_for rows.length (by omega) (fun i _ => mkSt [(3, .addr 0 0 0), (4, .sl (ids.map (PV.int .i64))), (5, .own 1), (6, .int .i64 (((rows.take i).filter fun r => ids.contains r.id).length : Nat)), (7, .int .i64 i)] [.pto [.sl (fl.map Field.pv), .sl (rows.map DRow.pvF), .sl (ents.map Entry.pvF), .int .i64 nx], .slo 1 (((rows.filter fun r => ids.contains r.id).map (·.doc.key)).map .str)]) (fun _ _ => True) 0 () (by omega) trivial ?_ ?_
    · rintro i _ hi - hw ih
      obtain ⟨x, hx, hg, _⟩ := drop_get hi default
      have ih' := ih () trivial
      rw [List.take_add_one, hx] at ih'
      cases c : ids.contains x.id with
      | false =>
        rw [show ((rows.take i ++ (some x).toList).filter fun r => ids.contains r.id) = (rows.take i).filter fun r => ids.contains r.id by rw [List.filter_append]; simp only [Option.toList, List.filter_cons, c, List.filter_nil]; simp] at ih'
        simp only [go_sem, ↓reduceIte, Nat.reduceAdd, Nat.reduceSub, Nat.reduceEqDiff, Nat.reduceLT, Nat.reduceLeDiff, Nat.reduceMul, Int.reduceNeg, Int.reduceToNat, Int.reduceEq, Int.reduceLT, Int.reduceLE, reduceCtorEq, hi, hw, hg, hx, c, hib]
        exact ih'
      | true =>
        rw [show ((rows.take i ++ (some x).toList).filter fun r => ids.contains r.id) = ((rows.take i).filter fun r => ids.contains r.id) ++ [x] by rw [List.filter_append]; simp only [Option.toList, List.filter_cons, c, List.filter_nil]; rfl, List.length_append, List.length_singleton] at ih'
        have ha := filtM_at (p := fun r : DRow => ids.contains r.id) (f := fun r => r.doc.key) hx c
        have hlt := filtM_lt (p := fun r : DRow => ids.contains r.id) (f := fun r => r.doc.key) hx c
        have hle := List.length_filter_le (fun r : DRow => ids.contains r.id) (rows.take i)
        simp only [List.length_take] at hle
        generalize ((rows.take i).filter fun r => ids.contains r.id).length = n at *
        generalize ((rows.filter fun r => ids.contains r.id).map fun r => r.doc.key) = L at *
        have hn2 : IntKind.i64.wrap ((n : Int) + 1) = ((n + 1 : Nat) : Int) := by rw [wrap_in (by omega) (by omega)]; omega
        have hnl : ¬ (L.length : Int) ≤ (n : Int) := by omega
        obtain ⟨y, hy, hgy, _⟩ := drop_get hlt default
        rw [ha] at hy
        obtain rfl := Option.some.inj hy
        simp only [go_sem, ↓reduceIte, Nat.reduceAdd, Nat.reduceSub, Nat.reduceEqDiff, Nat.reduceLT, Nat.reduceLeDiff, Nat.reduceMul, Int.reduceNeg, Int.reduceToNat, Int.reduceEq, Int.reduceLT, Int.reduceLE, reduceCtorEq, hi, hw, hg, hx, c, hib, hn2, hnl, hlt, ha, hgy]
        exact ih'
    · rintro _ -
      rw [List.take_length]
      simp only [go_sem, ↓reduceIte, Nat.reduceAdd, Nat.reduceSub, Nat.reduceEqDiff, Nat.reduceLT, Nat.reduceLeDiff, Nat.reduceMul, Int.reduceNeg, Int.reduceToNat, Int.reduceEq, Int.reduceLT, Int.reduceLE, reduceCtorEq, List.length_map]
end Go.Proofs.YtjagjfjhinlgiaaGreatDoor.PVE
