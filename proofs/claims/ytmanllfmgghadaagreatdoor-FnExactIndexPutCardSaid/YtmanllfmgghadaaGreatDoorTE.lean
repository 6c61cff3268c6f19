/- The index: the program's form. -/
import Derived.Test.YtmanllfmgghadaaGreatDoorTD
set_option linter.unusedVariables false
set_option linter.unusedSimpArgs false
set_option maxRecDepth 100000
namespace Go.Proofs.YtmanllfmgghadaaGreatDoor.PVE
open PV
@[go_sem] theorem equalI_R (a b : List Int) (ha : a.length ≤ 1099511627776) (hb : b.length ≤ 1099511627776) : R S0 229 [.sl (a.map (.int .i64)), .sl (b.map (.int .i64))] = some ⟨[none, none], .bool (decide (a = b))⟩ := by
  by_cases h : a.length = b.length
  · have h2 : (a.length : Int) = b.length := by omega
    refine go229 rfl ?_; simp only [go_sem, ↓reduceIte, Nat.reduceAdd, Nat.reduceSub, Nat.reduceEqDiff, Nat.reduceLT, Nat.reduceLeDiff, Nat.reduceMul, Int.reduceNeg, Int.reduceToNat, Int.reduceEq, Int.reduceLT, Int.reduceLE, reduceCtorEq, Tryz.f229, h2]
    refine ends_for b.length (by omega) (fun i _ => mkSt [(0, .sl (a.map (.int .i64))), (1, .sl (b.map (.int .i64))), (12, .int .i64 b.length), (13, .int .i64 i)] []) (fun i _ => a.take i = b.take i) 0 () (by omega) rfl ?_ ?_
    · rintro i _ hi hI hw ih
      obtain ⟨y, hy, hg, _⟩ := drop_get hi default
      have hia : i < a.length := by omega
      obtain ⟨x, hx, hgx, _⟩ := drop_get hia default
      by_cases he : x = y
      · subst he
        simp only [go_sem, ↓reduceIte, Nat.reduceAdd, Nat.reduceSub, Nat.reduceEqDiff, Nat.reduceLT, Nat.reduceLeDiff, Nat.reduceMul, Int.reduceNeg, Int.reduceToNat, Int.reduceEq, Int.reduceLT, Int.reduceLE, reduceCtorEq, hi, hw, hg, hia, hgx, hx, hy]
        exact ih () (by rw [List.take_add_one, List.take_add_one, hx, hy, hI])
      · have hne : ¬ a = b := by
          rintro rfl
          rw [hx] at hy
          exact he (Option.some.inj hy)
        simp only [go_sem, ↓reduceIte, Nat.reduceAdd, Nat.reduceSub, Nat.reduceEqDiff, Nat.reduceLT, Nat.reduceLeDiff, Nat.reduceMul, Int.reduceNeg, Int.reduceToNat, Int.reduceEq, Int.reduceLT, Int.reduceLE, reduceCtorEq, hi, hw, hg, hia, hgx, he, hx, hy]
        rw [decide_eq_false hne]
    · rintro _ hI
      rw [List.take_length, List.take_of_length_le (by omega)] at hI
      simp only [go_sem, ↓reduceIte, Nat.reduceAdd, Nat.reduceSub, Nat.reduceEqDiff, Nat.reduceLT, Nat.reduceLeDiff, Nat.reduceMul, Int.reduceNeg, Int.reduceToNat, Int.reduceEq, Int.reduceLT, Int.reduceLE, reduceCtorEq]
      rw [decide_eq_true hI]
  · have h2 : ¬ (a.length : Int) = b.length := by omega
    have hne : ¬ a = b := fun e => h (by rw [e])
    refine go229 rfl ?_; simp only [go_sem, ↓reduceIte, Nat.reduceAdd, Nat.reduceSub, Nat.reduceEqDiff, Nat.reduceLT, Nat.reduceLeDiff, Nat.reduceMul, Int.reduceNeg, Int.reduceToNat, Int.reduceEq, Int.reduceLT, Int.reduceLE, reduceCtorEq, Tryz.f229, h2]
    rw [decide_eq_false hne]
@[go_sem] theorem samePost_R (p q : Post) (hp : p.ats.length ≤ 1099511627776) (hq : q.ats.length ≤ 1099511627776) : R S0 186 [.agg [.int .i64 p.doc, .sl (p.ats.map (.int .i64))], .agg [.int .i64 q.doc, .sl (q.ats.map (.int .i64))]] = some ⟨[none, none], .bool (decide (p = q))⟩ := by
  have e : (p = q) = (p.doc = q.doc ∧ p.ats = q.ats) := by cases p; cases q; simp
  by_cases h : p.doc = q.doc
  · by_cases h2 : p.ats = q.ats
    · refine go186 rfl ?_; simp only [go_sem, ↓reduceIte, Nat.reduceAdd, Nat.reduceSub, Nat.reduceEqDiff, Nat.reduceLT, Nat.reduceLeDiff, Nat.reduceMul, Int.reduceNeg, Int.reduceToNat, Int.reduceEq, Int.reduceLT, Int.reduceLE, reduceCtorEq, Tryz.f186, eq_true h, eq_true h2, hp, hq]
      simp [e, h, h2]
    · refine go186 rfl ?_; simp only [go_sem, ↓reduceIte, Nat.reduceAdd, Nat.reduceSub, Nat.reduceEqDiff, Nat.reduceLT, Nat.reduceLeDiff, Nat.reduceMul, Int.reduceNeg, Int.reduceToNat, Int.reduceEq, Int.reduceLT, Int.reduceLE, reduceCtorEq, Tryz.f186, eq_true h, h2, hp, hq]
      simp [e, h2]
  · refine go186 rfl ?_; simp only [go_sem, ↓reduceIte, Nat.reduceAdd, Nat.reduceSub, Nat.reduceEqDiff, Nat.reduceLT, Nat.reduceLeDiff, Nat.reduceMul, Int.reduceNeg, Int.reduceToNat, Int.reduceEq, Int.reduceLT, Int.reduceLE, reduceCtorEq, Tryz.f186, h]
    simp [e, h]
@[go_sem] theorem equalP_R (a b : List Post) (ha : a.length ≤ 1099511627776 ∧ ∀ p ∈ a, p.ats.length ≤ 1099511627776) (hb : b.length ≤ 1099511627776 ∧ ∀ p ∈ b, p.ats.length ≤ 1099511627776) : R S0 185 [.sl (a.map Post.pvF), .sl (b.map Post.pvF), .fn 186 []] = some ⟨[none, none, none], .bool (decide (a = b))⟩ := by
  obtain ⟨ha1, ha2⟩ := ha
  obtain ⟨hb1, hb2⟩ := hb
  by_cases h : a.length = b.length
  · have h2 : (a.length : Int) = b.length := by omega
    refine go185 rfl ?_; simp only [go_sem, ↓reduceIte, Nat.reduceAdd, Nat.reduceSub, Nat.reduceEqDiff, Nat.reduceLT, Nat.reduceLeDiff, Nat.reduceMul, Int.reduceNeg, Int.reduceToNat, Int.reduceEq, Int.reduceLT, Int.reduceLE, reduceCtorEq, Tryz.f185, h2]
    refine ends_for b.length (by omega) (fun i _ => mkSt [(1, .sl (b.map Post.pvF)), (2, .fn 186 []), (15, .sl (a.map Post.pvF)), (16, .int .i64 b.length), (17, .int .i64 i)] []) (fun i _ => a.take i = b.take i) 0 () (by omega) rfl ?_ ?_
    · rintro i _ hi hI hw ih
      obtain ⟨y, hy, hg, _⟩ := drop_get hi default
      have hia : i < a.length := by omega
      obtain ⟨x, hx, hgx, _⟩ := drop_get hia default
      have hxs := ha2 x (List.mem_of_getElem? hx)
      have hys := hb2 y (List.mem_of_getElem? hy)
      by_cases he : x = y
      · subst he
        simp only [go_sem, ↓reduceIte, Nat.reduceAdd, Nat.reduceSub, Nat.reduceEqDiff, Nat.reduceLT, Nat.reduceLeDiff, Nat.reduceMul, Int.reduceNeg, Int.reduceToNat, Int.reduceEq, Int.reduceLT, Int.reduceLE, reduceCtorEq, hi, hw, hg, hia, hgx, hx, hy, hxs]
        exact ih () (by rw [List.take_add_one, List.take_add_one, hx, hy, hI])
      · have hne : ¬ a = b := by
          rintro rfl
          rw [hx] at hy
          exact he (Option.some.inj hy)
        simp only [go_sem, ↓reduceIte, Nat.reduceAdd, Nat.reduceSub, Nat.reduceEqDiff, Nat.reduceLT, Nat.reduceLeDiff, Nat.reduceMul, Int.reduceNeg, Int.reduceToNat, Int.reduceEq, Int.reduceLT, Int.reduceLE, reduceCtorEq, hi, hw, hg, hia, hgx, he, hx, hy, hxs, hys]
        rw [decide_eq_false hne]
    · rintro _ hI
      rw [List.take_length, List.take_of_length_le (by omega)] at hI
      simp only [go_sem, ↓reduceIte, Nat.reduceAdd, Nat.reduceSub, Nat.reduceEqDiff, Nat.reduceLT, Nat.reduceLeDiff, Nat.reduceMul, Int.reduceNeg, Int.reduceToNat, Int.reduceEq, Int.reduceLT, Int.reduceLE, reduceCtorEq]
      rw [decide_eq_true hI]
  · have h2 : ¬ (a.length : Int) = b.length := by omega
    have hne : ¬ a = b := fun e => h (by rw [e])
    refine go185 rfl ?_; simp only [go_sem, ↓reduceIte, Nat.reduceAdd, Nat.reduceSub, Nat.reduceEqDiff, Nat.reduceLT, Nat.reduceLeDiff, Nat.reduceMul, Int.reduceNeg, Int.reduceToNat, Int.reduceEq, Int.reduceLT, Int.reduceLE, reduceCtorEq, Tryz.f185, h2]
    rw [decide_eq_false hne]
def EnSm (e : Entry) : Prop := e.posts.length ≤ 1099511627776 ∧ ∀ p ∈ e.posts, p.ats.length ≤ 1099511627776
@[go_sem] theorem sameEntry_R (p q : Entry) (hp : EnSm p) (hq : EnSm q) : R S0 125 [.agg [.str p.field, .str p.term, .sl (p.posts.map Post.pvF)], .agg [.str q.field, .str q.term, .sl (q.posts.map Post.pvF)]] = some ⟨[none, none], .bool (decide (p = q))⟩ := by
  have e : (p = q) = (p.field = q.field ∧ p.term = q.term ∧ p.posts = q.posts) := by cases p; cases q; simp
  have hE := equalP_R p.posts q.posts hp hq
  by_cases h : p.field = q.field
  · by_cases h2 : p.term = q.term
    · refine go125 rfl ?_; simp only [go_sem, ↓reduceIte, Nat.reduceAdd, Nat.reduceSub, Nat.reduceEqDiff, Nat.reduceLT, Nat.reduceLeDiff, Nat.reduceMul, Int.reduceNeg, Int.reduceToNat, Int.reduceEq, Int.reduceLT, Int.reduceLE, reduceCtorEq, Tryz.f125, eq_true h, eq_true h2, hE]
      simp [e, h, h2]
    · refine go125 rfl ?_; simp only [go_sem, ↓reduceIte, Nat.reduceAdd, Nat.reduceSub, Nat.reduceEqDiff, Nat.reduceLT, Nat.reduceLeDiff, Nat.reduceMul, Int.reduceNeg, Int.reduceToNat, Int.reduceEq, Int.reduceLT, Int.reduceLE, reduceCtorEq, Tryz.f125, eq_true h, h2]
      simp [e, h2]
  · refine go125 rfl ?_; simp only [go_sem, ↓reduceIte, Nat.reduceAdd, Nat.reduceSub, Nat.reduceEqDiff, Nat.reduceLT, Nat.reduceLeDiff, Nat.reduceMul, Int.reduceNeg, Int.reduceToNat, Int.reduceEq, Int.reduceLT, Int.reduceLE, reduceCtorEq, Tryz.f125, h]
    simp [e, h]
@[go_sem] theorem equalEn_R (a b : List Entry) (ha : EntSm a) (hb : EntSm b) : R S0 123 [.sl (a.map Entry.pvF), .sl (b.map Entry.pvF), .fn 125 []] = some ⟨[none, none, none], .bool (decide (a = b))⟩ := by
  obtain ⟨ha1, ha2⟩ := ha
  obtain ⟨hb1, hb2⟩ := hb
  by_cases h : a.length = b.length
  · have h2 : (a.length : Int) = b.length := by omega
    refine go123 rfl ?_; simp only [go_sem, ↓reduceIte, Nat.reduceAdd, Nat.reduceSub, Nat.reduceEqDiff, Nat.reduceLT, Nat.reduceLeDiff, Nat.reduceMul, Int.reduceNeg, Int.reduceToNat, Int.reduceEq, Int.reduceLT, Int.reduceLE, reduceCtorEq, Tryz.f123, h2]
    refine ends_for b.length (by omega) (fun i _ => mkSt [(1, .sl (b.map Entry.pvF)), (2, .fn 125 []), (15, .sl (a.map Entry.pvF)), (16, .int .i64 b.length), (17, .int .i64 i)] []) (fun i _ => a.take i = b.take i) 0 () (by omega) rfl ?_ ?_
    · rintro i _ hi hI hw ih
      obtain ⟨y, hy, hg, _⟩ := drop_get hi default
      have hia : i < a.length := by omega
      obtain ⟨x, hx, hgx, _⟩ := drop_get hia default
      have hxs : EnSm x := ha2 x (List.mem_of_getElem? hx)
      have hys : EnSm y := hb2 y (List.mem_of_getElem? hy)
      by_cases he : x = y
      · subst he
        simp only [go_sem, ↓reduceIte, Nat.reduceAdd, Nat.reduceSub, Nat.reduceEqDiff, Nat.reduceLT, Nat.reduceLeDiff, Nat.reduceMul, Int.reduceNeg, Int.reduceToNat, Int.reduceEq, Int.reduceLT, Int.reduceLE, reduceCtorEq, hi, hw, hg, hia, hgx, hx, hy, hxs]
        exact ih () (by rw [List.take_add_one, List.take_add_one, hx, hy, hI])
      · have hne : ¬ a = b := by
          rintro rfl
          rw [hx] at hy
          exact he (Option.some.inj hy)
        simp only [go_sem, ↓reduceIte, Nat.reduceAdd, Nat.reduceSub, Nat.reduceEqDiff, Nat.reduceLT, Nat.reduceLeDiff, Nat.reduceMul, Int.reduceNeg, Int.reduceToNat, Int.reduceEq, Int.reduceLT, Int.reduceLE, reduceCtorEq, hi, hw, hg, hia, hgx, he, hx, hy, hxs, hys]
        rw [decide_eq_false hne]
    · rintro _ hI
      rw [List.take_length, List.take_of_length_le (by omega)] at hI
      simp only [go_sem, ↓reduceIte, Nat.reduceAdd, Nat.reduceSub, Nat.reduceEqDiff, Nat.reduceLT, Nat.reduceLeDiff, Nat.reduceMul, Int.reduceNeg, Int.reduceToNat, Int.reduceEq, Int.reduceLT, Int.reduceLE, reduceCtorEq]
      rw [decide_eq_true hI]
  · have h2 : ¬ (a.length : Int) = b.length := by omega
    have hne : ¬ a = b := fun e => h (by rw [e])
    refine go123 rfl ?_; simp only [go_sem, ↓reduceIte, Nat.reduceAdd, Nat.reduceSub, Nat.reduceEqDiff, Nat.reduceLT, Nat.reduceLeDiff, Nat.reduceMul, Int.reduceNeg, Int.reduceToNat, Int.reduceEq, Int.reduceLT, Int.reduceLE, reduceCtorEq, Tryz.f123, h2]
    rw [decide_eq_false hne]
end Go.Proofs.YtmanllfmgghadaaGreatDoor.PVE
namespace Go.Proofs.YtmanllfmgghadaaGreatDoor.PVE
open PV
@[go_sem] theorem row1_R (r : DRow) (k : Str) : R S0 132 [.agg [.int .i64 r.id, .str r.doc.key, .sl (r.doc.cells.map Cell.pv)], .pro [.str k]] = some ⟨[none, none], .bool (decide (r.doc.key = k))⟩ := by
  refine go132 rfl ?_; simp only [go_sem, ↓reduceIte, Nat.reduceAdd, Nat.reduceSub, Nat.reduceEqDiff, Nat.reduceLT, Nat.reduceLeDiff, Nat.reduceMul, Int.reduceNeg, Int.reduceToNat, Int.reduceEq, Int.reduceLT, Int.reduceLE, reduceCtorEq, Tryz.f132]
@[go_sem] theorem indexRow_R (rows : List DRow) (k : Str) (hl : rows.length ≤ 1099511627776) : R S0 131 [.sl (rows.map DRow.pvF), .fn 132 [.pro [.str k]]] = some ⟨[none, none], .int .i64 (keyIx rows k)⟩ := by
  refine go131 rfl ?_; simp only [go_sem, ↓reduceIte, Nat.reduceAdd, Nat.reduceSub, Nat.reduceEqDiff, Nat.reduceLT, Nat.reduceLeDiff, Nat.reduceMul, Int.reduceNeg, Int.reduceToNat, Int.reduceEq, Int.reduceLT, Int.reduceLE, reduceCtorEq, Tryz.f131]
  refine ends_for rows.length (by omega) (fun i _ => mkSt [(0, .sl (rows.map DRow.pvF)), (1, .fn 132 [.pro [.str k]]), (7, .int .i64 rows.length), (8, .int .i64 i)] []) (fun i _ => ∀ y ∈ rows.take i, decide (y.doc.key = k) = false) 0 () (by omega) (by simp) ?_ ?_
  · rintro i _ hi hI hw ih
    obtain ⟨x, hx, hg, hd⟩ := drop_get hi default
    by_cases h : x.doc.key = k
    · have := (look_at (p := fun r : DRow => decide (r.doc.key = k)) hI hx (by simpa using h)).2
      have e : keyIx rows k = i := by rw [keyIx, if_pos this.2, this.1]
      simp only [go_sem, ↓reduceIte, Nat.reduceAdd, Nat.reduceSub, Nat.reduceEqDiff, Nat.reduceLT, Nat.reduceLeDiff, Nat.reduceMul, Int.reduceNeg, Int.reduceToNat, Int.reduceEq, Int.reduceLT, Int.reduceLE, reduceCtorEq, hi, hw, hg, hx, eq_true h, e]
    · simp only [go_sem, ↓reduceIte, Nat.reduceAdd, Nat.reduceSub, Nat.reduceEqDiff, Nat.reduceLT, Nat.reduceLeDiff, Nat.reduceMul, Int.reduceNeg, Int.reduceToNat, Int.reduceEq, Int.reduceLT, Int.reduceLE, reduceCtorEq, hi, hw, hg, hx, h]
      exact ih () (take_step hI hx (by simpa using h))
  · rintro _ hI
    rw [List.take_length] at hI
    have := (look_no (p := fun r : DRow => decide (r.doc.key = k)) hI).2
    have e : keyIx rows k = -1 := by rw [keyIx, if_neg (by rw [this]; simp)]
    simp only [go_sem, ↓reduceIte, Nat.reduceAdd, Nat.reduceSub, Nat.reduceEqDiff, Nat.reduceLT, Nat.reduceLeDiff, Nat.reduceMul, Int.reduceNeg, Int.reduceToNat, Int.reduceEq, Int.reduceLT, Int.reduceLE, reduceCtorEq, e]
@[go_sem] theorem rowOf_R (fl : List Field) (rows : List DRow) (ents : List Entry) (nx : Int) (k : Str) (hl : rows.length ≤ 1099511627776) : R S0 68 [.agg [.sl (fl.map Field.pv), .sl (rows.map DRow.pvF), .sl (ents.map Entry.pvF), .int .i64 nx], .str k] = some ⟨[none, none], .int .i64 (keyIx rows k)⟩ := by
  refine go68 rfl ?_; simp only [go_sem, ↓reduceIte, Nat.reduceAdd, Nat.reduceSub, Nat.reduceEqDiff, Nat.reduceLT, Nat.reduceLeDiff, Nat.reduceMul, Int.reduceNeg, Int.reduceToNat, Int.reduceEq, Int.reduceLT, Int.reduceLE, reduceCtorEq, Tryz.f68, hl]
@[go_sem] theorem implIndexOk_R (fl : List Field) (rows : List DRow) (ents : List Entry) (nx : Int) (hfl : FSm fl) (hr : RowsM rows) (he : EntSm ents) (hn : -9223372036854775808 ≤ nx ∧ nx ≤ 9223372036854775807) : R S0 58 [.agg [.sl (fl.map Field.pv), .sl (rows.map DRow.pvF), .sl (ents.map Entry.pvF), .int .i64 nx]] = some ⟨[none], .bool (indexOkS fl rows ents nx)⟩ := by
  obtain ⟨hrl, hrs⟩ := id hr
  obtain ⟨hfl1, _⟩ := id hfl
  cases c1 : fieldsOk fl with
  | false =>
    have hn : indexOkS fl rows ents nx = false := by rw [indexOkS, c1]; simp
    refine go58 rfl ?_; simp only [go_sem, ↓reduceIte, Nat.reduceAdd, Nat.reduceSub, Nat.reduceEqDiff, Nat.reduceLT, Nat.reduceLeDiff, Nat.reduceMul, Int.reduceNeg, Int.reduceToNat, Int.reduceEq, Int.reduceLT, Int.reduceLE, reduceCtorEq, Tryz.f58, hfl, c1, hn]
  | true =>
  by_cases c2 : rows.length ≤ 8
  case neg =>
    have hn : indexOkS fl rows ents nx = false := by rw [indexOkS, decide_eq_false c2]; simp
    have c2' : (8 : Int) < (rows.length : Int) := by omega
    refine go58 rfl ?_; simp only [go_sem, ↓reduceIte, Nat.reduceAdd, Nat.reduceSub, Nat.reduceEqDiff, Nat.reduceLT, Nat.reduceLeDiff, Nat.reduceMul, Int.reduceNeg, Int.reduceToNat, Int.reduceEq, Int.reduceLT, Int.reduceLE, reduceCtorEq, Tryz.f58, hfl, c1, c2', hn]
  have c2' : ¬ (8 : Int) < (rows.length : Int) := by omega
  cases c3 : inB nx 0 999999999 with
  | false =>
    have hn : indexOkS fl rows ents nx = false := by rw [indexOkS, c3]; simp
    refine go58 rfl ?_; simp only [go_sem, ↓reduceIte, Nat.reduceAdd, Nat.reduceSub, Nat.reduceEqDiff, Nat.reduceLT, Nat.reduceLeDiff, Nat.reduceMul, Int.reduceNeg, Int.reduceToNat, Int.reduceEq, Int.reduceLT, Int.reduceLE, reduceCtorEq, Tryz.f58, hfl, c1, c2', c3, hn]
  | true =>
  have hnx : IntKind.i64.wrap (nx - 1) = nx - 1 := by
    simp only [inB, Bool.and_eq_true, decide_eq_true_eq] at c3
    exact wrap_in (by omega) (by omega)
  refine go58 rfl ?_; simp only [go_sem, ↓reduceIte, Nat.reduceAdd, Nat.reduceSub, Nat.reduceEqDiff, Nat.reduceLT, Nat.reduceLeDiff, Nat.reduceMul, Int.reduceNeg, Int.reduceToNat, Int.reduceEq, Int.reduceLT, Int.reduceLE, reduceCtorEq, Tryz.f58, hfl, c1, c2', c3]
  refine ends_for rows.length (by omega) (fun i _ => mkSt [(1, .addr 0 0 0), (22, .sl (rows.map DRow.pvF)), (23, .int .i64 rows.length), (24, .int .i64 i)] [.pto [.sl (fl.map Field.pv), .sl (rows.map DRow.pvF), .sl (ents.map Entry.pvF), .int .i64 nx]]) (fun i _ => rowsOkTo fl rows nx i = true) 0 () (by omega) rfl ?_ ?_
  · rintro i _ hi hI hw ih
    obtain ⟨r, hx, hg, _⟩ := drop_get hi default
    have hds := hrs r (List.mem_of_getElem? hx)
    have hno : rowOkS fl rows nx i = false → indexOkS fl rows ents nx = false := fun h => by rw [indexOkS, rowsOkTo_no hi h]; rfl
    cases d1 : inB r.id 0 (nx - 1) with
    | false =>
      have hn := hno (by rw [rowOkS, hg, d1]; simp)
      simp only [go_sem, ↓reduceIte, Nat.reduceAdd, Nat.reduceSub, Nat.reduceEqDiff, Nat.reduceLT, Nat.reduceLeDiff, Nat.reduceMul, Int.reduceNeg, Int.reduceToNat, Int.reduceEq, Int.reduceLT, Int.reduceLE, reduceCtorEq, hi, hw, hg, hx, hnx, d1, hn]
    | true =>
      have d2 : (i = 0 ∧ ¬ (0 : Int) < (i : Int)) ∨ ((0 : Int) < (i : Int) ∧ 0 < i) := by omega
      rcases d2 with ⟨d2, g0⟩ | ⟨g0, d2⟩
      · cases d3 : docOk fl r.doc with
        | false =>
          have hn := hno (by rw [rowOkS, hg, d3]; rfl)
          simp only [go_sem, ↓reduceIte, Nat.reduceAdd, Nat.reduceSub, Nat.reduceEqDiff, Nat.reduceLT, Nat.reduceLeDiff, Nat.reduceMul, Int.reduceNeg, Int.reduceToNat, Int.reduceEq, Int.reduceLT, Int.reduceLE, reduceCtorEq, hi, hw, hg, hx, hfl, hds, hrl, hnx, d1, g0, d3, hn]
        | true =>
          by_cases d4 : keyIx rows r.doc.key = i
          · have hy : rowOkS fl rows nx i = true := by rw [rowOkS, hg, d1, d3, decide_eq_true d4, decide_eq_true d2]; rfl
            have ih' := ih () (by rw [rowsOkTo, hI, hy]; rfl)
            simp only [go_sem, ↓reduceIte, Nat.reduceAdd, Nat.reduceSub, Nat.reduceEqDiff, Nat.reduceLT, Nat.reduceLeDiff, Nat.reduceMul, Int.reduceNeg, Int.reduceToNat, Int.reduceEq, Int.reduceLT, Int.reduceLE, reduceCtorEq, hi, hw, hg, hx, hfl, hds, hrl, hnx, d1, g0, d3, d4]
            exact ih'
          · have hn := hno (by rw [rowOkS, hg, decide_eq_false d4]; simp)
            simp only [go_sem, ↓reduceIte, Nat.reduceAdd, Nat.reduceSub, Nat.reduceEqDiff, Nat.reduceLT, Nat.reduceLeDiff, Nat.reduceMul, Int.reduceNeg, Int.reduceToNat, Int.reduceEq, Int.reduceLT, Int.reduceLE, reduceCtorEq, hi, hw, hg, hx, hfl, hds, hrl, hnx, d1, g0, d3, d4, hn]
      · have hi1 : IntKind.i64.wrap ((i : Int) - 1) = ((i - 1 : Nat) : Int) := by rw [wrap_in (by omega) (by omega)]; omega
        have hlt : i - 1 < rows.length := by omega
        obtain ⟨y, hy1, hy2, _⟩ := drop_get hlt default
        have d20 : ¬ i = 0 := by omega
        by_cases c5 : y.id < r.id
        case neg =>
          have hn := hno (by rw [rowOkS, hg, hy2, decide_eq_false c5, decide_eq_false d20]; simp)
          have c5' : r.id ≤ y.id := by omega
          simp only [go_sem, ↓reduceIte, Nat.reduceAdd, Nat.reduceSub, Nat.reduceEqDiff, Nat.reduceLT, Nat.reduceLeDiff, Nat.reduceMul, Int.reduceNeg, Int.reduceToNat, Int.reduceEq, Int.reduceLT, Int.reduceLE, reduceCtorEq, hi, hw, hg, hx, hnx, d1, g0, hi1, hlt, hy1, hy2, c5', hn]
        have c5' : ¬ r.id ≤ y.id := by omega
        cases d3 : docOk fl r.doc with
        | false =>
          have hn := hno (by rw [rowOkS, hg, d3]; rfl)
          simp only [go_sem, ↓reduceIte, Nat.reduceAdd, Nat.reduceSub, Nat.reduceEqDiff, Nat.reduceLT, Nat.reduceLeDiff, Nat.reduceMul, Int.reduceNeg, Int.reduceToNat, Int.reduceEq, Int.reduceLT, Int.reduceLE, reduceCtorEq, hi, hw, hg, hx, hfl, hds, hrl, hnx, d1, g0, hi1, hlt, hy1, hy2, c5', d3, hn]
        | true =>
          by_cases d4 : keyIx rows r.doc.key = i
          · have hy : rowOkS fl rows nx i = true := by rw [rowOkS, hg, hy2, d1, d3, decide_eq_true d4, decide_eq_true c5]; simp
            have ih' := ih () (by rw [rowsOkTo, hI, hy]; rfl)
            simp only [go_sem, ↓reduceIte, Nat.reduceAdd, Nat.reduceSub, Nat.reduceEqDiff, Nat.reduceLT, Nat.reduceLeDiff, Nat.reduceMul, Int.reduceNeg, Int.reduceToNat, Int.reduceEq, Int.reduceLT, Int.reduceLE, reduceCtorEq, hi, hw, hg, hx, hfl, hds, hrl, hnx, d1, g0, hi1, hlt, hy1, hy2, c5', d3, d4]
            exact ih'
          · have hn := hno (by rw [rowOkS, hg, decide_eq_false d4]; simp)
            simp only [go_sem, ↓reduceIte, Nat.reduceAdd, Nat.reduceSub, Nat.reduceEqDiff, Nat.reduceLT, Nat.reduceLeDiff, Nat.reduceMul, Int.reduceNeg, Int.reduceToNat, Int.reduceEq, Int.reduceLT, Int.reduceLE, reduceCtorEq, hi, hw, hg, hx, hfl, hds, hrl, hnx, d1, g0, hi1, hlt, hy1, hy2, c5', d3, d4, hn]
  · rintro _ hI
    have hst := (rowsOk_st hI c2).st (by omega) (by omega)
    have hms := made_sm fl hst
    have hn : indexOkS fl rows ents nx = decide (madeE fl rows = ents) := by rw [indexOkS, hI, c1, c3, decide_eq_true c2]; simp
    have hc : decide (madeE fl rows = ents) = decide (ents = madeE fl rows) := by simp [eq_comm]
    simp only [go_sem, ↓reduceIte, Nat.reduceAdd, Nat.reduceSub, Nat.reduceEqDiff, Nat.reduceLT, Nat.reduceLeDiff, Nat.reduceMul, Int.reduceNeg, Int.reduceToNat, Int.reduceEq, Int.reduceLT, Int.reduceLE, reduceCtorEq, hfl1, hst, hms, he, hn, hc]
    decide +kernel
end Go.Proofs.YtmanllfmgghadaaGreatDoor.PVE
namespace Go.Proofs.YtmanllfmgghadaaGreatDoor.PVE
open PV
@[go_sem] theorem cloneDoc_R (d : Doc) (hd : d.cells.length ≤ 1099511627776) : R S0 139 [.agg [.str d.key, .sl (d.cells.map Cell.pv)]] = some ⟨[none], .agg [.str d.key, .slo 2 (d.cells.map Cell.pv)]⟩ := by
  refine go139 rfl ?_; simp only [go_sem, ↓reduceIte, Nat.reduceAdd, Nat.reduceSub, Nat.reduceEqDiff, Nat.reduceLT, Nat.reduceLeDiff, Nat.reduceMul, Int.reduceNeg, Int.reduceToNat, Int.reduceEq, Int.reduceLT, Int.reduceLE, reduceCtorEq, Tryz.f139]
  exact ⟨by omega, by decide +kernel⟩
@[go_sem] theorem less_R (fl : List Field) (rows : List DRow) (ents : List Entry) (nx : Int) (k : Str) (hl : rows.length ≤ 1099511627776) : R S0 86 [.agg [.sl (fl.map Field.pv), .sl (rows.map DRow.pvF), .sl (ents.map Entry.pvF), .int .i64 nx], .str k] = some ⟨[none, none], .slo 3 ((lessKey rows k).map DRow.pvF)⟩ := by
  refine go86 rfl ?_; simp only [go_sem, ↓reduceIte, Nat.reduceAdd, Nat.reduceSub, Nat.reduceEqDiff, Nat.reduceLT, Nat.reduceLeDiff, Nat.reduceMul, Int.reduceNeg, Int.reduceToNat, Int.reduceEq, Int.reduceLT, Int.reduceLE, reduceCtorEq, Tryz.f86]
  refine ends_for rows.length (by omega) (fun i _ => mkSt [(1, .str k), (5, .own 0), (10, .sl (rows.map DRow.pvF)), (11, .int .i64 rows.length), (12, .int .i64 i)] [.slo 3 ((lessKey (rows.take i) k).map DRow.pvF)]) (fun _ _ => True) 0 () (by omega) trivial ?_ ?_
  · rintro i _ hi _ hw ih
    obtain ⟨x, hx, hg, hd⟩ := drop_get hi default
    have hle : (lessKey (rows.take i) k).length ≤ 1099511627776 := by
      have := List.length_filter_le (fun r : DRow => !decide (r.doc.key = k)) (rows.take i)
      rw [lessKey]; simp only [List.length_take] at this; omega
    have ih' := ih () trivial
    by_cases h : x.doc.key = k
    · have e : lessKey (rows.take (i + 1)) k = lessKey (rows.take i) k := by rw [lessKey, List.take_add_one, hx, List.filter_append]; simp [h, lessKey]
      rw [e] at ih'
      simp only [go_sem, ↓reduceIte, Nat.reduceAdd, Nat.reduceSub, Nat.reduceEqDiff, Nat.reduceLT, Nat.reduceLeDiff, Nat.reduceMul, Int.reduceNeg, Int.reduceToNat, Int.reduceEq, Int.reduceLT, Int.reduceLE, reduceCtorEq, hi, hw, hg, hx, eq_true h]
      exact ih'
    · have e : lessKey (rows.take (i + 1)) k = lessKey (rows.take i) k ++ [DRow.mk x.id (Doc.mk x.doc.key x.doc.cells)] := by rw [lessKey, List.take_add_one, hx, List.filter_append]; simp [h, lessKey]
      rw [e] at ih'
      simp only [go_sem, ↓reduceIte, Nat.reduceAdd, Nat.reduceSub, Nat.reduceEqDiff, Nat.reduceLT, Nat.reduceLeDiff, Nat.reduceMul, Int.reduceNeg, Int.reduceToNat, Int.reduceEq, Int.reduceLT, Int.reduceLE, reduceCtorEq, hi, hw, hg, hx, h]
      exact ⟨by omega, ih'⟩
  · rintro _ _
    rw [List.take_length]
    simp only [go_sem, ↓reduceIte, Nat.reduceAdd, Nat.reduceSub, Nat.reduceEqDiff, Nat.reduceLT, Nat.reduceLeDiff, Nat.reduceMul, Int.reduceNeg, Int.reduceToNat, Int.reduceEq, Int.reduceLT, Int.reduceLE, reduceCtorEq]
@[go_sem] theorem rebuilt_R (fl : List Field) (rows0 rows : List DRow) (ents : List Entry) (nx0 nx : Int) (hfl : fl.length ≤ 1099511627776) (hr : RowsSt rows) : R S0 85 [.agg [.sl (fl.map Field.pv), .sl (rows0.map DRow.pvF), .sl (ents.map Entry.pvF), .int .i64 nx0], .sl (rows.map DRow.pvF), .int .i64 nx] = some ⟨[none, none, none], .agg [.slo 3 (fl.map Field.pv), .slo 3 (rows.map DRow.pv), .slo 3 ((madeE fl rows).map Entry.pv), .int .i64 nx]⟩ := by
  obtain ⟨hl, hrs⟩ := id hr
  refine go85 rfl ?_; simp only [go_sem, ↓reduceIte, Nat.reduceAdd, Nat.reduceSub, Nat.reduceEqDiff, Nat.reduceLT, Nat.reduceLeDiff, Nat.reduceMul, Int.reduceNeg, Int.reduceToNat, Int.reduceEq, Int.reduceLT, Int.reduceLE, reduceCtorEq, Tryz.f85, hfl, hr]
  refine ⟨by omega, by decide +kernel, ?_⟩
  refine ends_for rows.length (by omega) (fun i _ => mkSt [(6, .addr 0 0 0), (7, .addr 1 0 0), (21, .sl (rows.map DRow.pvF)), (22, .int .i64 rows.length), (23, .int .i64 i)] [.pto [.slo 3 [], .slo 3 [], .slo 3 [], .int .i64 0], .pto [.slo 3 (fl.map Field.pv), .slo 3 ((rows.take i).map DRow.pv), .slo 3 ((madeE fl rows).map Entry.pv), .int .i64 nx]]) (fun _ _ => True) 0 () (by omega) trivial ?_ ?_
  · rintro i _ hi _ hw ih
    obtain ⟨x, hx, hg, hd⟩ := drop_get hi default
    obtain ⟨_, hxc, _⟩ := hrs x (List.mem_of_getElem? hx)
    have hxb : x.doc.cells.length ≤ 1099511627776 := by omega
    have ih' := ih () trivial
    have e : rows.take (i + 1) = rows.take i ++ [DRow.mk x.id (Doc.mk x.doc.key x.doc.cells)] := by rw [List.take_add_one, hx]; rfl
    have hlt : (rows.take i).length ≤ 1000 := by simp; omega
    rw [e] at ih'
    simp only [go_sem, ↓reduceIte, Nat.reduceAdd, Nat.reduceSub, Nat.reduceEqDiff, Nat.reduceLT, Nat.reduceLeDiff, Nat.reduceMul, Int.reduceNeg, Int.reduceToNat, Int.reduceEq, Int.reduceLT, Int.reduceLE, reduceCtorEq, hi, hw, hg, hx, hxb]
    exact ⟨by omega, by decide +kernel, ih'⟩
  · rintro _ _
    rw [List.take_length]
    simp only [go_sem, ↓reduceIte, Nat.reduceAdd, Nat.reduceSub, Nat.reduceEqDiff, Nat.reduceLT, Nat.reduceLeDiff, Nat.reduceMul, Int.reduceNeg, Int.reduceToNat, Int.reduceEq, Int.reduceLT, Int.reduceLE, reduceCtorEq]
@[go_sem] theorem clone_R2 (fl : List Field) (rows : List DRow) (ents : List Entry) (nx : Int) (hfl : fl.length ≤ 1099511627776) (hr : RowsSt rows) : R S0 84 [.agg [.sl (fl.map Field.pv), .sl (rows.map DRow.pvF), .sl (ents.map Entry.pvF), .int .i64 nx]] = some ⟨[none], .agg [.slo 3 (fl.map Field.pv), .slo 3 (rows.map DRow.pv), .slo 3 ((madeE fl rows).map Entry.pv), .int .i64 nx]⟩ := by
  refine go84 rfl ?_; simp only [go_sem, ↓reduceIte, Nat.reduceAdd, Nat.reduceSub, Nat.reduceEqDiff, Nat.reduceLT, Nat.reduceLeDiff, Nat.reduceMul, Int.reduceNeg, Int.reduceToNat, Int.reduceEq, Int.reduceLT, Int.reduceLE, reduceCtorEq, Tryz.f84, hfl, hr]
end Go.Proofs.YtmanllfmgghadaaGreatDoor.PVE
