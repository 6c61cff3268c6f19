/- Drawn indexes with a document, or a key; the laws of putting in and taking out. -/
import Derived.Test.YtmanllfmgghadaaGreatDoorTG
set_option linter.unusedVariables false
set_option linter.unusedSimpArgs false
set_option maxRecDepth 100000
namespace Go.Proofs.YtmanllfmgghadaaGreatDoor.PVE
open PV Query
end Go.Proofs.YtmanllfmgghadaaGreatDoor.PVE
namespace Go.Proofs.YtmanllfmgghadaaGreatDoor.PVE
open PV Query
theorem find_R (fl : List Field) (rows : List DRow) (ents : List Entry) (nx : Int) (q : Query) (hfl : FSm fl) (hr : RowsD fl rows) (hq : q.Sm) (dp : Nat) (hok : okQ dp q = true) : R S0 79 [.agg [.sl (fl.map Field.pv), .sl (rows.map DRow.pvF), .sl (ents.map Entry.pvF), .int .i64 nx], .agg [.int .i64 q.kind, .str q.field, .str q.text, .int .i64 q.low, .int .i64 q.high, .sl (q.parts.map pv)]] = some ⟨[none, none], .slo 1 ((findS fl rows q).map (.int .i64))⟩ := by
  obtain ⟨hrl, hrd⟩ := id hr
  refine go79 rfl ?_; simp only [go_sem, ↓reduceIte, Nat.reduceAdd, Nat.reduceSub, Nat.reduceEqDiff, Nat.reduceLT, Nat.reduceLeDiff, Nat.reduceMul, Int.reduceNeg, Int.reduceToNat, Int.reduceEq, Int.reduceLT, Int.reduceLE, reduceCtorEq, Tryz.f79]
  refine ends_for rows.length (by omega) (fun i _ => mkSt [(2, .addr 0 0 0), (3, .addr 1 0 0), (5, .own 2), (10, .sl (rows.map DRow.pvF)), (11, .int .i64 rows.length), (12, .int .i64 i)] [.pto [.sl (fl.map Field.pv), .sl (rows.map DRow.pvF), .sl (ents.map Entry.pvF), .int .i64 nx], .pto [.int .i64 q.kind, .str q.field, .str q.text, .int .i64 q.low, .int .i64 q.high, .sl (q.parts.map pv)], .slo 1 ((findS fl (rows.take i) q).map (.int .i64))]) (fun _ _ => True) 0 () (by omega) trivial ?_ ?_
  · rintro i _ hi _ hw ih
    obtain ⟨r, hx, hg, _⟩ := drop_get hi default
    have hd := hrd r (List.mem_of_getElem? hx)
    have hds := (docOk_st hd).sm (by omega)
    have hm := meets_R fl r.doc hfl hds hd dp q hq hok
    have hle := findS_len fl (rows.take i) q
    have hle2 : (findS fl (rows.take i) q).length ≤ 8 := by simp only [List.length_take] at hle; omega
    have ih' := ih () trivial
    cases c : meetsM fl r.doc q with
    | true =>
      have e : findS fl (rows.take (i + 1)) q = findS fl (rows.take i) q ++ [r.id] := by rw [findS, List.take_add_one, hx, List.filter_append]; simp [c, findS]
      rw [c] at hm
      rw [e] at ih'
      simp only [go_sem, ↓reduceIte, Nat.reduceAdd, Nat.reduceSub, Nat.reduceEqDiff, Nat.reduceLT, Nat.reduceLeDiff, Nat.reduceMul, Int.reduceNeg, Int.reduceToNat, Int.reduceEq, Int.reduceLT, Int.reduceLE, reduceCtorEq, hi, hw, hg, hx, hm]
      exact ⟨by omega, ih'⟩
    | false =>
      have e : findS fl (rows.take (i + 1)) q = findS fl (rows.take i) q := by rw [findS, List.take_add_one, hx, List.filter_append]; simp [c, findS]
      rw [c] at hm
      rw [e] at ih'
      simp only [go_sem, ↓reduceIte, Nat.reduceAdd, Nat.reduceSub, Nat.reduceEqDiff, Nat.reduceLT, Nat.reduceLeDiff, Nat.reduceMul, Int.reduceNeg, Int.reduceToNat, Int.reduceEq, Int.reduceLT, Int.reduceLE, reduceCtorEq, hi, hw, hg, hx, hm]
      exact ih'
  · rintro _ _
    simp only [go_sem, ↓reduceIte, Nat.reduceAdd, Nat.reduceSub, Nat.reduceEqDiff, Nat.reduceLT, Nat.reduceLeDiff, Nat.reduceMul, Int.reduceNeg, Int.reduceToNat, Int.reduceEq, Int.reduceLT, Int.reduceLE, reduceCtorEq]
    rw [List.take_length]
@[go_sem] theorem may_R (fl : List Field) (rows : List DRow) (ents : List Entry) (nx : Int) (q : Query) (hfl : FSm fl) (hr : RowsM rows) (he : EntSm ents) (hn : -9223372036854775808 ≤ nx ∧ nx ≤ 9223372036854775807) (hq : q.Sm) : R S0 78 [.agg [.sl (fl.map Field.pv), .sl (rows.map DRow.pvF), .sl (ents.map Entry.pvF), .int .i64 nx], .agg [.int .i64 q.kind, .str q.field, .str q.text, .int .i64 q.low, .int .i64 q.high, .sl (q.parts.map pv)]] = some ⟨[none, none], .bool (askOk fl rows ents nx q)⟩ := by
  cases c1 : indexOkS fl rows ents nx with
  | false =>
    have e : askOk fl rows ents nx q = false := by rw [askOk, c1]; rfl
    refine go78 rfl ?_; simp only [go_sem, ↓reduceIte, Nat.reduceAdd, Nat.reduceSub, Nat.reduceEqDiff, Nat.reduceLT, Nat.reduceLeDiff, Nat.reduceMul, Int.reduceNeg, Int.reduceToNat, Int.reduceEq, Int.reduceLT, Int.reduceLE, reduceCtorEq, Tryz.f78, hfl, hr, he, hn, hq, c1, e]
  | true =>
    cases c2 : (fieldsOk fl && okQ 4 q && fitsI fl q) with
    | false =>
      have e : askOk fl rows ents nx q = false := by rw [askOk, c2]; simp
      refine go78 rfl ?_; simp only [go_sem, ↓reduceIte, Nat.reduceAdd, Nat.reduceSub, Nat.reduceEqDiff, Nat.reduceLT, Nat.reduceLeDiff, Nat.reduceMul, Int.reduceNeg, Int.reduceToNat, Int.reduceEq, Int.reduceLT, Int.reduceLE, reduceCtorEq, Tryz.f78, hfl, hr, he, hn, hq, c1, c2, e]
    | true =>
      have e : askOk fl rows ents nx q = true := by rw [askOk, c1, c2]; rfl
      refine go78 rfl ?_; simp only [go_sem, ↓reduceIte, Nat.reduceAdd, Nat.reduceSub, Nat.reduceEqDiff, Nat.reduceLT, Nat.reduceLeDiff, Nat.reduceMul, Int.reduceNeg, Int.reduceToNat, Int.reduceEq, Int.reduceLT, Int.reduceLE, reduceCtorEq, Tryz.f78, hfl, hr, he, hn, hq, c1, c2, e]
theorem ask_parts {fl : List Field} {rows : List DRow} {ents : List Entry} {nx : Int} {q : Query} (h : askOk fl rows ents nx q = true) : indexOkS fl rows ents nx = true ∧ (fieldsOk fl && okQ 4 q && fitsI fl q) = true ∧ okQ 4 q = true := by
  simp only [askOk, Bool.and_eq_true] at h
  exact ⟨h.1, by simp only [Bool.and_eq_true]; exact h.2, h.2.1.2⟩
def findA (fl : List Field) (rows : List DRow) (ents : List Entry) (nx : Int) (q : Query) : List Int := if askOk fl rows ents nx q = true then findS fl rows q else []
@[go_sem] theorem implFind_R (fl : List Field) (rows : List DRow) (ents : List Entry) (nx : Int) (q : Query) (hfl : FSm fl) (hr : RowsM rows) (he : EntSm ents) (hn : -9223372036854775808 ≤ nx ∧ nx ≤ 9223372036854775807) (hq : q.Sm) : R S0 28 [.agg [.sl (fl.map Field.pv), .sl (rows.map DRow.pvF), .sl (ents.map Entry.pvF), .int .i64 nx], .agg [.int .i64 q.kind, .str q.field, .str q.text, .int .i64 q.low, .int .i64 q.high, .sl (q.parts.map pv)]] = some ⟨[none, none], .slo 1 ((findA fl rows ents nx q).map (.int .i64))⟩ := by
  rw [findA]
  cases c : askOk fl rows ents nx q with
  | false =>
    rw [if_neg (by simp)]
    refine go28 rfl ?_; simp only [go_sem, ↓reduceIte, Nat.reduceAdd, Nat.reduceSub, Nat.reduceEqDiff, Nat.reduceLT, Nat.reduceLeDiff, Nat.reduceMul, Int.reduceNeg, Int.reduceToNat, Int.reduceEq, Int.reduceLT, Int.reduceLE, reduceCtorEq, Tryz.f28, hfl, hr, he, hn, hq, c]
  | true =>
    rw [if_pos rfl]
    obtain ⟨c1, c2, c3⟩ := ask_parts c
    have hf := find_R fl rows ents nx q hfl (indexOk_rows c1) hq 4 c3
    refine go28 rfl ?_; simp only [go_sem, ↓reduceIte, Nat.reduceAdd, Nat.reduceSub, Nat.reduceEqDiff, Nat.reduceLT, Nat.reduceLeDiff, Nat.reduceMul, Int.reduceNeg, Int.reduceToNat, Int.reduceEq, Int.reduceLT, Int.reduceLE, reduceCtorEq, Tryz.f28, hfl, hr, he, hn, hq, c, hf]
@[go_sem] theorem specFind_R (fl : List Field) (rows : List DRow) (ents : List Entry) (nx : Int) (q : Query) (hfl : FSm fl) (hr : RowsM rows) (he : EntSm ents) (hn : -9223372036854775808 ≤ nx ∧ nx ≤ 9223372036854775807) (hq : q.Sm) : R S0 26 [.agg [.sl (fl.map Field.pv), .sl (rows.map DRow.pvF), .sl (ents.map Entry.pvF), .int .i64 nx], .agg [.int .i64 q.kind, .str q.field, .str q.text, .int .i64 q.low, .int .i64 q.high, .sl (q.parts.map pv)]] = some ⟨[none, none], .slo 1 ((findA fl rows ents nx q).map (.int .i64))⟩ := by
  rw [findA]
  cases c1 : indexOkS fl rows ents nx with
  | false =>
    have e : askOk fl rows ents nx q = false := by rw [askOk, c1]; rfl
    rw [e, if_neg (by simp)]
    refine go26 rfl ?_; simp only [go_sem, ↓reduceIte, Nat.reduceAdd, Nat.reduceSub, Nat.reduceEqDiff, Nat.reduceLT, Nat.reduceLeDiff, Nat.reduceMul, Int.reduceNeg, Int.reduceToNat, Int.reduceEq, Int.reduceLT, Int.reduceLE, reduceCtorEq, Tryz.f26, hfl, hr, he, hn, hq, c1]
  | true =>
    cases c2 : (fieldsOk fl && okQ 4 q && fitsI fl q) with
    | false =>
      have e : askOk fl rows ents nx q = false := by rw [askOk, c2]; simp
      rw [e, if_neg (by simp)]
      refine go26 rfl ?_; simp only [go_sem, ↓reduceIte, Nat.reduceAdd, Nat.reduceSub, Nat.reduceEqDiff, Nat.reduceLT, Nat.reduceLeDiff, Nat.reduceMul, Int.reduceNeg, Int.reduceToNat, Int.reduceEq, Int.reduceLT, Int.reduceLE, reduceCtorEq, Tryz.f26, hfl, hr, he, hn, hq, c1, c2]
    | true =>
      have e : askOk fl rows ents nx q = true := by rw [askOk, c1, c2]; rfl
      rw [e, if_pos rfl]
      obtain ⟨_, _, c3⟩ := ask_parts e
      have hf := l6Find_R fl rows ents nx q hfl (indexOk_rows c1) hq 4 c3
      refine go26 rfl ?_; simp only [go_sem, ↓reduceIte, Nat.reduceAdd, Nat.reduceSub, Nat.reduceEqDiff, Nat.reduceLT, Nat.reduceLeDiff, Nat.reduceMul, Int.reduceNeg, Int.reduceToNat, Int.reduceEq, Int.reduceLT, Int.reduceLE, reduceCtorEq, Tryz.f26, hfl, hr, he, hn, hq, c1, c2, hf]
theorem findA_len {fl : List Field} {rows : List DRow} {ents : List Entry} {nx : Int} {q : Query} : (findA fl rows ents nx q).length ≤ 8 := by
  unfold findA
  split
  · rename_i h
    have := (indexOk_rows (ask_parts h).1).1
    have := findS_len fl rows q
    omega
  · simp
end Go.Proofs.YtmanllfmgghadaaGreatDoor.PVE
namespace Go.Proofs.YtmanllfmgghadaaGreatDoor.PVE
open PV Query
end Go.Proofs.YtmanllfmgghadaaGreatDoor.PVE
namespace Go.Proofs.YtmanllfmgghadaaGreatDoor.PVE
open PV Query
def hasDoc (i : Int) (e : Entry) : Bool := e.posts.any fun p => decide (p.doc = i)
def alikeP (ents : List Entry) (i j : Int) : Bool := (ents.any fun e => hasDoc i e && hasDoc j e) && !decide (j = i)
theorem alikeP_self (ents : List Entry) (i : Int) : alikeP ents i i = false := by rw [alikeP]; simp
def alikeTo (rows : List DRow) (ents : List Entry) (i : Int) : List Int := (rows.filter fun r => alikeP ents i r.id).map (·.id)
def alikeS (fl : List Field) (rows : List DRow) (ents : List Entry) (nx : Int) (k : Str) : List Int := if indexOkS fl rows ents nx = true ∧ ¬ keyIx rows k < 0 then alikeTo rows ents (rows.getD (keyIx rows k).toNat default).id else []
theorem alikeTo_len (rows : List DRow) (ents : List Entry) (i : Int) : (alikeTo rows ents i).length ≤ rows.length := by
  rw [alikeTo, List.length_map]; exact List.length_filter_le _ _
theorem alikeS_len {fl : List Field} {rows : List DRow} {ents : List Entry} {nx : Int} {k : Str} : (alikeS fl rows ents nx k).length ≤ 8 := by
  unfold alikeS
  split
  · rename_i h
    exact Nat.le_trans (alikeTo_len _ _ _) (indexOk_parts h.1).2.2.1
  · simp
def ixOf {α : Type} (f : α → Bool) (l : List α) : Int := if l.any f = true then (l.findIdx f : Nat) else -1
theorem ixOf_any {α : Type} (f : α → Bool) (l : List α) : (decide (0 ≤ ixOf f l)) = l.any f := by
  unfold ixOf
  cases h : l.any f with
  | true => simp
  | false => simp
theorem ixOf_at {α : Type} {f : α → Bool} {l : List α} {i : Nat} {x : α} (hI : ∀ y ∈ l.take i, f y = false) (hx : l[i]? = some x) (hf : f x = true) : ixOf f l = i := by
  have := (look_at (p := f) hI hx hf).2
  rw [ixOf, if_pos this.2, this.1]
theorem ixOf_no {α : Type} {f : α → Bool} {l : List α} (hI : ∀ y ∈ l, f y = false) : ixOf f l = -1 := by
  have := (look_no (p := f) hI).2
  rw [ixOf, if_neg (by rw [this]; simp)]
@[go_sem] theorem alike11_R (p : Post) (i : Int) : R S0 71 [.agg [.int .i64 p.doc, .sl (p.ats.map (.int .i64))], .pro [.int .i64 i]] = some ⟨[none, none], .bool (decide (p.doc = i))⟩ := by
  refine go71 rfl ?_; simp only [go_sem, ↓reduceIte, Nat.reduceAdd, Nat.reduceSub, Nat.reduceEqDiff, Nat.reduceLT, Nat.reduceLeDiff, Nat.reduceMul, Int.reduceNeg, Int.reduceToNat, Int.reduceEq, Int.reduceLT, Int.reduceLE, reduceCtorEq, Tryz.f71]
@[go_sem] theorem indexPost_R (ps : List Post) (i : Int) (hl : ps.length ≤ 1099511627776) : R S0 133 [.sl (ps.map Post.pvF), .fn 71 [.pro [.int .i64 i]]] = some ⟨[none, none], .int .i64 (ixOf (fun p : Post => decide (p.doc = i)) ps)⟩ := by
  refine go133 rfl ?_; simp only [go_sem, ↓reduceIte, Nat.reduceAdd, Nat.reduceSub, Nat.reduceEqDiff, Nat.reduceLT, Nat.reduceLeDiff, Nat.reduceMul, Int.reduceNeg, Int.reduceToNat, Int.reduceEq, Int.reduceLT, Int.reduceLE, reduceCtorEq, Tryz.f133]
  refine ends_for ps.length (by omega) (fun j _ => mkSt [(0, .sl (ps.map Post.pvF)), (1, .fn 71 [.pro [.int .i64 i]]), (7, .int .i64 ps.length), (8, .int .i64 j)] []) (fun j _ => ∀ y ∈ ps.take j, decide (y.doc = i) = false) 0 () (by omega) (by simp) ?_ ?_
  · rintro j _ hi hI hw ih
    obtain ⟨x, hx, hg, hd⟩ := drop_get hi default
    by_cases h : x.doc = i
    · have e := ixOf_at (f := fun p : Post => decide (p.doc = i)) hI hx (by simpa using h)
      simp only [go_sem, ↓reduceIte, Nat.reduceAdd, Nat.reduceSub, Nat.reduceEqDiff, Nat.reduceLT, Nat.reduceLeDiff, Nat.reduceMul, Int.reduceNeg, Int.reduceToNat, Int.reduceEq, Int.reduceLT, Int.reduceLE, reduceCtorEq, hi, hw, hg, hx, eq_true h, e]
    · simp only [go_sem, ↓reduceIte, Nat.reduceAdd, Nat.reduceSub, Nat.reduceEqDiff, Nat.reduceLT, Nat.reduceLeDiff, Nat.reduceMul, Int.reduceNeg, Int.reduceToNat, Int.reduceEq, Int.reduceLT, Int.reduceLE, reduceCtorEq, hi, hw, hg, hx, h]
      exact ih () (take_step hI hx (by simpa using h))
  · rintro _ hI
    rw [List.take_length] at hI
    have e := ixOf_no (f := fun p : Post => decide (p.doc = i)) hI
    simp only [go_sem, ↓reduceIte, Nat.reduceAdd, Nat.reduceSub, Nat.reduceEqDiff, Nat.reduceLT, Nat.reduceLeDiff, Nat.reduceMul, Int.reduceNeg, Int.reduceToNat, Int.reduceEq, Int.reduceLT, Int.reduceLE, reduceCtorEq, e]
@[go_sem] theorem containsPost_R (ps : List Post) (i : Int) (hl : ps.length ≤ 1099511627776) : R S0 70 [.sl (ps.map Post.pvF), .fn 71 [.pro [.int .i64 i]]] = some ⟨[none, none], .bool (ps.any fun p => decide (p.doc = i))⟩ := by
  have h2 := ixOf_any (fun p : Post => decide (p.doc = i)) ps
  refine go70 rfl ?_; simp only [go_sem, ↓reduceIte, Nat.reduceAdd, Nat.reduceSub, Nat.reduceEqDiff, Nat.reduceLT, Nat.reduceLeDiff, Nat.reduceMul, Int.reduceNeg, Int.reduceToNat, Int.reduceEq, Int.reduceLT, Int.reduceLE, reduceCtorEq, Tryz.f70, hl, h2]
@[go_sem] theorem alike1_R (e : Entry) (i : Int) (hl : e.posts.length ≤ 1099511627776) : R S0 69 [.agg [.str e.field, .str e.term, .sl (e.posts.map Post.pvF)], .int .i64 i] = some ⟨[none, none], .bool (hasDoc i e)⟩ := by
  rw [hasDoc]
  refine go69 rfl ?_; simp only [go_sem, ↓reduceIte, Nat.reduceAdd, Nat.reduceSub, Nat.reduceEqDiff, Nat.reduceLT, Nat.reduceLeDiff, Nat.reduceMul, Int.reduceNeg, Int.reduceToNat, Int.reduceEq, Int.reduceLT, Int.reduceLE, reduceCtorEq, Tryz.f69, hl]
abbrev cap3 (i : Int) (r : DRow) : List PV := [.pro [.fn 69 []], .pro [.int .i64 i], .pro [.int .i64 r.id, .str r.doc.key, .sl (r.doc.cells.map Cell.pv)]]
theorem alike2_R (e : Entry) (i : Int) (r : DRow) (hl : e.posts.length ≤ 1099511627776) : R S0 73 (.agg [.str e.field, .str e.term, .sl (e.posts.map Post.pvF)] :: cap3 i r) = some ⟨[none, none, none, none], .bool (hasDoc i e && hasDoc r.id e)⟩ := by
  cases h : hasDoc i e with
  | false => refine go73 rfl ?_; simp only [go_sem, ↓reduceIte, Nat.reduceAdd, Nat.reduceSub, Nat.reduceEqDiff, Nat.reduceLT, Nat.reduceLeDiff, Nat.reduceMul, Int.reduceNeg, Int.reduceToNat, Int.reduceEq, Int.reduceLT, Int.reduceLE, reduceCtorEq, Tryz.f73, hl, h]
  | true => refine go73 rfl ?_; simp only [go_sem, ↓reduceIte, Nat.reduceAdd, Nat.reduceSub, Nat.reduceEqDiff, Nat.reduceLT, Nat.reduceLeDiff, Nat.reduceMul, Int.reduceNeg, Int.reduceToNat, Int.reduceEq, Int.reduceLT, Int.reduceLE, reduceCtorEq, Tryz.f73, hl, h]
theorem indexEnt_R (es : List Entry) (i : Int) (r : DRow) (hl : EntSm es) : R S0 134 [.sl (es.map Entry.pvF), .fn 73 (cap3 i r)] = some ⟨[none, none], .int .i64 (ixOf (fun e => hasDoc i e && hasDoc r.id e) es)⟩ := by
  obtain ⟨hel, hes⟩ := id hl
  refine go134 rfl ?_; simp only [go_sem, ↓reduceIte, Nat.reduceAdd, Nat.reduceSub, Nat.reduceEqDiff, Nat.reduceLT, Nat.reduceLeDiff, Nat.reduceMul, Int.reduceNeg, Int.reduceToNat, Int.reduceEq, Int.reduceLT, Int.reduceLE, reduceCtorEq, Tryz.f134]
  refine ends_for es.length (by omega) (fun j _ => mkSt [(0, .sl (es.map Entry.pvF)), (1, .fn 73 (cap3 i r)), (7, .int .i64 es.length), (8, .int .i64 j)] []) (fun j _ => ∀ y ∈ es.take j, (hasDoc i y && hasDoc r.id y) = false) 0 () (by omega) (by simp) ?_ ?_
  · rintro j _ hi hI hw ih
    obtain ⟨x, hx, hg, hd⟩ := drop_get hi default
    have h1 := alike2_R x i r (hes x (List.mem_of_getElem? hx)).1
    cases h : (hasDoc i x && hasDoc r.id x) with
    | true =>
      have e := ixOf_at (f := fun e => hasDoc i e && hasDoc r.id e) hI hx h
      rw [h] at h1
      simp only [go_sem, ↓reduceIte, Nat.reduceAdd, Nat.reduceSub, Nat.reduceEqDiff, Nat.reduceLT, Nat.reduceLeDiff, Nat.reduceMul, Int.reduceNeg, Int.reduceToNat, Int.reduceEq, Int.reduceLT, Int.reduceLE, reduceCtorEq, hi, hw, hg, hx, h1, e]
    | false =>
      rw [h] at h1
      simp only [go_sem, ↓reduceIte, Nat.reduceAdd, Nat.reduceSub, Nat.reduceEqDiff, Nat.reduceLT, Nat.reduceLeDiff, Nat.reduceMul, Int.reduceNeg, Int.reduceToNat, Int.reduceEq, Int.reduceLT, Int.reduceLE, reduceCtorEq, hi, hw, hg, hx, h1]
      exact ih () (take_step hI hx h)
  · rintro _ hI
    rw [List.take_length] at hI
    have e := ixOf_no (f := fun e => hasDoc i e && hasDoc r.id e) hI
    simp only [go_sem, ↓reduceIte, Nat.reduceAdd, Nat.reduceSub, Nat.reduceEqDiff, Nat.reduceLT, Nat.reduceLeDiff, Nat.reduceMul, Int.reduceNeg, Int.reduceToNat, Int.reduceEq, Int.reduceLT, Int.reduceLE, reduceCtorEq, e]
theorem containsEnt_R (es : List Entry) (i : Int) (r : DRow) (hl : EntSm es) : R S0 72 [.sl (es.map Entry.pvF), .fn 73 (cap3 i r)] = some ⟨[none, none], .bool (es.any fun e => hasDoc i e && hasDoc r.id e)⟩ := by
  have h1 := indexEnt_R es i r hl
  have h2 := ixOf_any (fun e => hasDoc i e && hasDoc r.id e) es
  refine go72 rfl ?_; simp only [go_sem, ↓reduceIte, Nat.reduceAdd, Nat.reduceSub, Nat.reduceEqDiff, Nat.reduceLT, Nat.reduceLeDiff, Nat.reduceMul, Int.reduceNeg, Int.reduceToNat, Int.reduceEq, Int.reduceLT, Int.reduceLE, reduceCtorEq, Tryz.f72, h1, h2]
theorem implAlike_R (fl : List Field) (rows : List DRow) (ents : List Entry) (nx : Int) (k : Str) (hfl : FSm fl) (hr : RowsM rows) (he : EntSm ents) (hn : -9223372036854775808 ≤ nx ∧ nx ≤ 9223372036854775807) : R S0 23 [.agg [.sl (fl.map Field.pv), .sl (rows.map DRow.pvF), .sl (ents.map Entry.pvF), .int .i64 nx], .str k] = some ⟨[none, none], .slo 1 ((alikeS fl rows ents nx k).map (.int .i64))⟩ := by
  have hl : rows.length ≤ 1099511627776 := hr.1
  cases h : indexOkS fl rows ents nx with
  | false =>
    have e : alikeS fl rows ents nx k = [] := by rw [alikeS, if_neg (by rw [h]; simp)]
    rw [e]
    refine go23 rfl ?_; simp only [go_sem, ↓reduceIte, Nat.reduceAdd, Nat.reduceSub, Nat.reduceEqDiff, Nat.reduceLT, Nat.reduceLeDiff, Nat.reduceMul, Int.reduceNeg, Int.reduceToNat, Int.reduceEq, Int.reduceLT, Int.reduceLE, reduceCtorEq, Tryz.f23, hfl, hr, he, hn, h, hl]
  | true =>
    by_cases hk : keyIx rows k < 0
    · have e : alikeS fl rows ents nx k = [] := by rw [alikeS, if_neg (fun c => c.2 hk)]
      rw [e]
      refine go23 rfl ?_; simp only [go_sem, ↓reduceIte, Nat.reduceAdd, Nat.reduceSub, Nat.reduceEqDiff, Nat.reduceLT, Nat.reduceLeDiff, Nat.reduceMul, Int.reduceNeg, Int.reduceToNat, Int.reduceEq, Int.reduceLT, Int.reduceLE, reduceCtorEq, Tryz.f23, hfl, hr, he, hn, h, hl, hk]
    · obtain ⟨_, hp2, _⟩ := rowsOk_iff.1 (indexOk_parts h).1
      obtain ⟨r0, hr0, hk0⟩ : ∃ r ∈ rows, r.doc.key = k := by
        rw [keyIx_neg, Bool.not_eq_false, List.any_eq_true] at hk
        obtain ⟨r, h1, h2⟩ := hk
        exact ⟨r, h1, by simpa using h2⟩
      obtain ⟨a, ha, hk1, hx0⟩ := key_at hp2 hr0
      rw [hk0] at hk1
      obtain ⟨x0, hx00, hg0, _⟩ := drop_get ha default
      rw [hx0] at hx00
      obtain rfl := Option.some.inj hx00
      have e : alikeS fl rows ents nx k = alikeTo rows ents r0.id := by
        rw [alikeS, if_pos ⟨h, hk⟩, hk1]
        simp only [Int.toNat_natCast, hg0]
      rw [e]
      refine go23 rfl ?_; simp only [go_sem, ↓reduceIte, Nat.reduceAdd, Nat.reduceSub, Nat.reduceEqDiff, Nat.reduceLT, Nat.reduceLeDiff, Nat.reduceMul, Int.reduceNeg, Int.reduceToNat, Int.reduceEq, Int.reduceLT, Int.reduceLE, reduceCtorEq, Tryz.f23, hfl, hr, he, hn, h, hl, hk1, ha, hx0, hg0]
      refine ⟨fun hc => by omega, fun _ => ?_⟩
      have hst : ∀ i, (alikeTo (rows.take i) ents r0.id).length ≤ 1099511627776 := fun i => by
        have := alikeTo_len (rows.take i) ents r0.id
        simp only [List.length_take] at this; omega
      refine ends_for rows.length (by omega) (fun i (s : Bool) => mkSt [(2, .addr 0 0 0), (5, .own 1), (7, .addr 2 0 0), (30, .sl (rows.map DRow.pvF)), (31, .int .i64 rows.length), (32, .int .i64 i)] [.pto [.sl (fl.map Field.pv), .sl (rows.map DRow.pvF), .sl (ents.map Entry.pvF), .int .i64 nx], .slo 1 ((alikeTo (rows.take i) ents r0.id).map (.int .i64)), cond s (.pro [.int .i64 r0.id]) (.pto [.int .i64 r0.id])]) (fun _ _ => True) 0 false (by omega) trivial ?_ ?_
      · rintro i s hi - hw ih
        obtain ⟨x, hx, hg, _⟩ := drop_get hi default
        have ihs := ih s trivial
        have iht := ih true trivial
        have hli := hst i
        have hC := containsEnt_R ents r0.id x he
        by_cases c1 : x.id = r0.id
        · have e : alikeTo (rows.take (i + 1)) ents r0.id = alikeTo (rows.take i) ents r0.id := by
            have : alikeP ents r0.id x.id = false := by rw [c1, alikeP_self]
            rw [alikeTo, List.take_add_one, hx, List.filter_append]; simp [this, alikeTo]
          rw [e] at ihs
          cases s <;> simp only [cond_true, cond_false] at ihs ⊢
          · simp only [go_sem, ↓reduceIte, Nat.reduceAdd, Nat.reduceSub, Nat.reduceEqDiff, Nat.reduceLT, Nat.reduceLeDiff, Nat.reduceMul, Int.reduceNeg, Int.reduceToNat, Int.reduceEq, Int.reduceLT, Int.reduceLE, reduceCtorEq, hi, hw, hg, hx, eq_true c1]
            exact ihs
          · simp only [go_sem, ↓reduceIte, Nat.reduceAdd, Nat.reduceSub, Nat.reduceEqDiff, Nat.reduceLT, Nat.reduceLeDiff, Nat.reduceMul, Int.reduceNeg, Int.reduceToNat, Int.reduceEq, Int.reduceLT, Int.reduceLE, reduceCtorEq, hi, hw, hg, hx, eq_true c1]
            exact ihs
        · cases c2 : (ents.any fun e => hasDoc r0.id e && hasDoc x.id e) with
          | false =>
            have e : alikeTo (rows.take (i + 1)) ents r0.id = alikeTo (rows.take i) ents r0.id := by
              have : alikeP ents r0.id x.id = false := by rw [alikeP, c2]; rfl
              rw [alikeTo, List.take_add_one, hx, List.filter_append]; simp [this, alikeTo]
            rw [e] at iht
            rw [c2] at hC
            cases s <;> simp only [cond_true, cond_false] at iht ⊢
            · simp only [go_sem, ↓reduceIte, Nat.reduceAdd, Nat.reduceSub, Nat.reduceEqDiff, Nat.reduceLT, Nat.reduceLeDiff, Nat.reduceMul, Int.reduceNeg, Int.reduceToNat, Int.reduceEq, Int.reduceLT, Int.reduceLE, reduceCtorEq, hi, hw, hg, hx, c1, hC]
              exact iht
            · simp only [go_sem, ↓reduceIte, Nat.reduceAdd, Nat.reduceSub, Nat.reduceEqDiff, Nat.reduceLT, Nat.reduceLeDiff, Nat.reduceMul, Int.reduceNeg, Int.reduceToNat, Int.reduceEq, Int.reduceLT, Int.reduceLE, reduceCtorEq, hi, hw, hg, hx, c1, hC]
              exact iht
          | true =>
            have e : alikeTo (rows.take (i + 1)) ents r0.id = alikeTo (rows.take i) ents r0.id ++ [x.id] := by
              have : alikeP ents r0.id x.id = true := by rw [alikeP, c2, decide_eq_false c1]; rfl
              rw [alikeTo, List.take_add_one, hx, List.filter_append]; simp [this, alikeTo]
            rw [e] at iht
            rw [c2] at hC
            cases s <;> simp only [cond_true, cond_false] at iht ⊢
            · simp only [go_sem, ↓reduceIte, Nat.reduceAdd, Nat.reduceSub, Nat.reduceEqDiff, Nat.reduceLT, Nat.reduceLeDiff, Nat.reduceMul, Int.reduceNeg, Int.reduceToNat, Int.reduceEq, Int.reduceLT, Int.reduceLE, reduceCtorEq, hi, hw, hg, hx, c1, hC]
              exact ⟨by omega, iht⟩
            · simp only [go_sem, ↓reduceIte, Nat.reduceAdd, Nat.reduceSub, Nat.reduceEqDiff, Nat.reduceLT, Nat.reduceLeDiff, Nat.reduceMul, Int.reduceNeg, Int.reduceToNat, Int.reduceEq, Int.reduceLT, Int.reduceLE, reduceCtorEq, hi, hw, hg, hx, c1, hC]
              exact ⟨by omega, iht⟩
      · rintro s -
        rw [List.take_length]
        cases s <;> simp only [cond_true, cond_false]
        · simp only [go_sem, ↓reduceIte, Nat.reduceAdd, Nat.reduceSub, Nat.reduceEqDiff, Nat.reduceLT, Nat.reduceLeDiff, Nat.reduceMul, Int.reduceNeg, Int.reduceToNat, Int.reduceEq, Int.reduceLT, Int.reduceLE, reduceCtorEq]
        · simp only [go_sem, ↓reduceIte, Nat.reduceAdd, Nat.reduceSub, Nat.reduceEqDiff, Nat.reduceLT, Nat.reduceLeDiff, Nat.reduceMul, Int.reduceNeg, Int.reduceToNat, Int.reduceEq, Int.reduceLT, Int.reduceLE, reduceCtorEq]
end Go.Proofs.YtmanllfmgghadaaGreatDoor.PVE
