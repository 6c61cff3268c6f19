/- The index's form and the ranking (reference). -/
import Derived.Test.YtjagjfjhinlgiaaGreatDoorT26
set_option linter.unusedVariables false
set_option linter.unusedSimpArgs false
set_option maxRecDepth 100000
namespace Go.Proofs.YtjagjfjhinlgiaaGreatDoor.PVE
open PV Query
def RowsM (rows : List DRow) : Prop := rows.length ≤ 1099511627776 ∧ ∀ r ∈ rows, DSm r.doc
theorem RowsS.sm {n k : Nat} {rows : List DRow} (h : RowsS n k rows) (hn : n ≤ 1000) (hk : k ≤ 1000) : RowsM rows := ⟨by have := h.1; omega, fun r hr => (h.2 r hr).sm hk⟩
def rowOkS (fl : List Field) (rows : List DRow) (nx : Int) (i : Nat) : Bool := docOk fl (rows.getD i default).doc && decide (keyIx rows (rows.getD i default).doc.key = i) && inB (rows.getD i default).id 0 (nx - 1) && (decide (i = 0) || decide ((rows.getD (i - 1) default).id < (rows.getD i default).id))
def rowsOkTo (fl : List Field) (rows : List DRow) (nx : Int) : Nat → Bool
  | 0 => true
  | k + 1 => rowsOkTo fl rows nx k && rowOkS fl rows nx k
def indexOkS (fl : List Field) (rows : List DRow) (ents : List Entry) (nx : Int) : Bool := rowsOkTo fl rows nx rows.length && (fieldsOk fl && decide (rows.length ≤ 8) && inB nx 0 999999999 && decide (madeE fl rows = ents))
theorem rowsOkTo_all {fl : List Field} {rows : List DRow} {nx : Int} : ∀ {k : Nat}, rowsOkTo fl rows nx k = true ↔ ∀ i, i < k → rowOkS fl rows nx i = true
  | 0 => by simp [rowsOkTo]
  | k + 1 => by
    rw [rowsOkTo, Bool.and_eq_true, rowsOkTo_all (k := k)]
    constructor
    · rintro ⟨h1, h2⟩ i hi
      rcases Nat.lt_succ_iff_lt_or_eq.1 hi with h | rfl
      · exact h1 i h
      · exact h2
    · exact fun h => ⟨fun i hi => h i (by omega), h k (by omega)⟩
theorem rowsOkTo_no {fl : List Field} {rows : List DRow} {nx : Int} {k i : Nat} (hi : i < k) (h : rowOkS fl rows nx i = false) : rowsOkTo fl rows nx k = false := by
  cases hc : rowsOkTo fl rows nx k with
  | false => rfl
  | true => rw [rowsOkTo_all.1 hc i hi] at h; cases h
theorem docOk_st {fl : List Field} {d : Doc} (h : docOk fl d = true) : DSt 4 d := by
  obtain ⟨_, h2, h3⟩ := docOk_parts h
  simp only [docOk, Bool.and_eq_true, docForm, decide_eq_true_eq] at h
  have := nameOk_len h.1.2.1.2
  exact ⟨by omega, h2, fun c hc => by have := h3 c hc; omega⟩
theorem rowsOk_st {fl : List Field} {rows : List DRow} {nx : Int} (h : rowsOkTo fl rows nx rows.length = true) (hl : rows.length ≤ 8) : RowsS 8 4 rows := by
  refine ⟨hl, fun r hr => ?_⟩
  obtain ⟨i, hi, rfl⟩ := List.getElem_of_mem hr
  have := rowsOkTo_all.1 h i hi
  simp only [rowOkS, Bool.and_eq_true, List.getD_eq_getElem?_getD, List.getElem?_eq_getElem hi, Option.getD_some] at this
  exact docOk_st this.1.1.1
@[go_sem] theorem specIndexOk_R (fl : List Field) (rows : List DRow) (ents : List Entry) (nx : Int) (hfl : FSm fl) (hr : RowsM rows) (he : EntSm ents) (hn : -9223372036854775807 ≤ nx ∧ nx ≤ 9223372036854775807) : R S0 15 [.agg [.sl (fl.map Field.pv), .sl (rows.map DRow.pvF), .sl (ents.map Entry.pvF), .int .i64 nx]] = some ⟨[none], .bool (indexOkS fl rows ents nx)⟩ := by
  obtain ⟨hrl, hrs⟩ := id hr
  obtain ⟨hfl1, _⟩ := id hfl
  have hnx : IntKind.i64.wrap (nx - 1) = nx - 1 := wrap_in (by omega) (by omega)
  refine go15 rfl ?_; simp only [go_sem, ↓reduceIte, Nat.reduceAdd, Nat.reduceSub, Nat.reduceEqDiff, Nat.reduceLT, Nat.reduceLeDiff, Nat.reduceMul, Int.reduceNeg, Int.reduceToNat, Int.reduceEq, Int.reduceLT, Int.reduceLE, reduceCtorEq, Tryz.f15]
  refine ends_for rows.length (by omega) (fun i _ => mkSt [(1, .addr 0 0 0), (3, .int .i64 i)] [.pto [.sl (fl.map Field.pv), .sl (rows.map DRow.pvF), .sl (ents.map Entry.pvF), .int .i64 nx]]) (fun i _ => rowsOkTo fl rows nx i = true) 0 () (by omega) rfl ?_ ?_
  · rintro i _ hi hI hw ih
    obtain ⟨r, hx, hg, _⟩ := drop_get hi default
    have hds := hrs r (List.mem_of_getElem? hx)
    have hno : rowOkS fl rows nx i = false → indexOkS fl rows ents nx = false := fun h => by rw [indexOkS, rowsOkTo_no hi h]; rfl
    have hi1 : IntKind.i64.wrap ((i : Int) - 1) = (i : Int) - 1 := wrap_in (by omega) (by omega)
    cases c1 : docOk fl r.doc with
    | false =>
      have hn := hno (by rw [rowOkS, hg, c1]; rfl)
      simp only [go_sem, ↓reduceIte, Nat.reduceAdd, Nat.reduceSub, Nat.reduceEqDiff, Nat.reduceLT, Nat.reduceLeDiff, Nat.reduceMul, Int.reduceNeg, Int.reduceToNat, Int.reduceEq, Int.reduceLT, Int.reduceLE, reduceCtorEq, hi, hw, hg, hx, hfl, hds, hrl, hnx, c1, hn]
    | true =>
      by_cases c2 : keyIx rows r.doc.key = i
      case neg =>
        have hn := hno (by rw [rowOkS, hg, decide_eq_false c2]; simp)
        simp only [go_sem, ↓reduceIte, Nat.reduceAdd, Nat.reduceSub, Nat.reduceEqDiff, Nat.reduceLT, Nat.reduceLeDiff, Nat.reduceMul, Int.reduceNeg, Int.reduceToNat, Int.reduceEq, Int.reduceLT, Int.reduceLE, reduceCtorEq, hi, hw, hg, hx, hfl, hds, hrl, hnx, c1, c2, hn]
      have c2t := eq_true c2
      cases c3 : inB r.id 0 (nx - 1) with
      | false =>
        have hn := hno (by rw [rowOkS, hg, c3]; simp)
        simp only [go_sem, ↓reduceIte, Nat.reduceAdd, Nat.reduceSub, Nat.reduceEqDiff, Nat.reduceLT, Nat.reduceLeDiff, Nat.reduceMul, Int.reduceNeg, Int.reduceToNat, Int.reduceEq, Int.reduceLT, Int.reduceLE, reduceCtorEq, hi, hw, hg, hx, hfl, hds, hrl, hnx, c1, c2, c3, hn]
      | true =>
        by_cases c4 : i = 0
        · have hy : rowOkS fl rows nx i = true := by rw [rowOkS, hg, c1, c3, decide_eq_true c2, decide_eq_true c4]; rfl
          have ih' := ih () (by rw [rowsOkTo, hI, hy]; rfl)
          have g0 : ¬ (0 : Int) < (i : Int) := by omega
          simp only [go_sem, ↓reduceIte, Nat.reduceAdd, Nat.reduceSub, Nat.reduceEqDiff, Nat.reduceLT, Nat.reduceLeDiff, Nat.reduceMul, Int.reduceNeg, Int.reduceToNat, Int.reduceEq, Int.reduceLT, Int.reduceLE, reduceCtorEq, hi, hw, hg, hx, hfl, hds, hrl, hnx, c1, c2, c3, g0]
          exact ih'
        · have g0 : (0 : Int) < (i : Int) := by omega
          have hi1 : IntKind.i64.wrap ((i : Int) - 1) = ((i - 1 : Nat) : Int) := by rw [wrap_in (by omega) (by omega)]; omega
          have hlt : i - 1 < rows.length := by omega
          obtain ⟨y, hy1, hy2, _⟩ := drop_get hlt default
          by_cases c5 : y.id < r.id
          · have hy : rowOkS fl rows nx i = true := by rw [rowOkS, hg, hy2, c1, c3, decide_eq_true c2, decide_eq_true c5]; simp
            have ih' := ih () (by rw [rowsOkTo, hI, hy]; rfl)
            have c5' : ¬ r.id ≤ y.id := by omega
            simp only [go_sem, ↓reduceIte, Nat.reduceAdd, Nat.reduceSub, Nat.reduceEqDiff, Nat.reduceLT, Nat.reduceLeDiff, Nat.reduceMul, Int.reduceNeg, Int.reduceToNat, Int.reduceEq, Int.reduceLT, Int.reduceLE, reduceCtorEq, hi, hw, hg, hx, hfl, hds, hrl, hnx, c1, c2, c3, g0, hi1, hlt, hy1, hy2, c5']
            exact ih'
          · have hn := hno (by rw [rowOkS, hg, hy2, c1, c3, decide_eq_true c2, decide_eq_false c5, decide_eq_false c4]; rfl)
            have c5' : r.id ≤ y.id := by omega
            simp only [go_sem, ↓reduceIte, Nat.reduceAdd, Nat.reduceSub, Nat.reduceEqDiff, Nat.reduceLT, Nat.reduceLeDiff, Nat.reduceMul, Int.reduceNeg, Int.reduceToNat, Int.reduceEq, Int.reduceLT, Int.reduceLE, reduceCtorEq, hi, hw, hg, hx, hfl, hds, hrl, hnx, c1, c2, c3, g0, hi1, hlt, hy1, hy2, c5', hn]
  · rintro _ hI
    cases c1 : fieldsOk fl with
    | false =>
      have hn : indexOkS fl rows ents nx = false := by rw [indexOkS, c1]; simp
      simp only [go_sem, ↓reduceIte, Nat.reduceAdd, Nat.reduceSub, Nat.reduceEqDiff, Nat.reduceLT, Nat.reduceLeDiff, Nat.reduceMul, Int.reduceNeg, Int.reduceToNat, Int.reduceEq, Int.reduceLT, Int.reduceLE, reduceCtorEq, hfl, c1, hn]
    | true =>
      by_cases c2 : rows.length ≤ 8
      case neg =>
        have hn : indexOkS fl rows ents nx = false := by rw [indexOkS, decide_eq_false c2]; simp
        have c2' : ¬ (rows.length : Int) ≤ 8 := by omega
        simp only [go_sem, ↓reduceIte, Nat.reduceAdd, Nat.reduceSub, Nat.reduceEqDiff, Nat.reduceLT, Nat.reduceLeDiff, Nat.reduceMul, Int.reduceNeg, Int.reduceToNat, Int.reduceEq, Int.reduceLT, Int.reduceLE, reduceCtorEq, hfl, c1, c2', hn]
      have c2' : (rows.length : Int) ≤ 8 := by omega
      cases c3 : inB nx 0 999999999 with
      | false =>
        have hn : indexOkS fl rows ents nx = false := by rw [indexOkS, c3]; simp
        simp only [go_sem, ↓reduceIte, Nat.reduceAdd, Nat.reduceSub, Nat.reduceEqDiff, Nat.reduceLT, Nat.reduceLeDiff, Nat.reduceMul, Int.reduceNeg, Int.reduceToNat, Int.reduceEq, Int.reduceLT, Int.reduceLE, reduceCtorEq, hfl, c1, c2', c3, hn]
      | true =>
        have hst := (rowsOk_st hI c2).st (by omega) (by omega)
        have hms := made_sm fl hst
        have hn : indexOkS fl rows ents nx = decide (madeE fl rows = ents) := by rw [indexOkS, hI, c1, c3, decide_eq_true c2]; simp
        simp only [go_sem, ↓reduceIte, Nat.reduceAdd, Nat.reduceSub, Nat.reduceEqDiff, Nat.reduceLT, Nat.reduceLeDiff, Nat.reduceMul, Int.reduceNeg, Int.reduceToNat, Int.reduceEq, Int.reduceLT, Int.reduceLE, reduceCtorEq, hfl, hfl1, c1, c2', c3, hst, hms, he, hn]
        decide +kernel
/-! ### How often, how much -/
theorem begM_R' (s p : Str) : R S0 227 [.str s, .str p] = some ⟨[none, none], .bool (begM p s)⟩ := l4Begins_R s p
def runFits (all want : List Str) (i : Nat) : Bool := decide (i + want.length ≤ all.length) && runAt all want i
theorem cntTo_congr {f g : Nat → Bool} : ∀ {n : Nat}, (∀ i, i < n → f i = g i) → cntTo f n = cntTo g n
  | 0, _ => rfl
  | n + 1, h => by rw [cntTo, cntTo, cntTo_congr (n := n) fun i hi => h i (by omega), h n (by omega)]
theorem cntTo_false {f : Nat → Bool} {m : Nat} : ∀ {k : Nat}, (∀ i, m ≤ i → f i = false) → cntTo f (m + k) = cntTo f m
  | 0, _ => rfl
  | k + 1, h => by rw [← Nat.add_assoc, cntTo, h (m + k) (by omega), cntTo_false (k := k) h]; simp
theorem runFits_cnt {all want : List Str} (hw : want ≠ []) : cntTo (runFits all want) all.length = cntTo (runAt all want) (all.length + 1 - want.length) := by
  have hpos : 0 < want.length := List.length_pos_iff.2 hw
  have h1 : cntTo (runAt all want) (all.length + 1 - want.length) = cntTo (runFits all want) (all.length + 1 - want.length) := cntTo_congr fun i hi => by
    rw [runFits, decide_eq_true (by omega), Bool.true_and]
  rw [h1]
  have h2 := cntTo_false (f := runFits all want) (m := all.length + 1 - want.length) (k := all.length - (all.length + 1 - want.length)) (fun i hi => by rw [runFits, decide_eq_false (by omega)]; rfl)
  rw [← h2]; congr 1; omega
theorem textOk_Q {dp : Nat} {q : Query} (h : okQ dp q = true) (hk : q.kind = 2 ∨ q.kind = 3 ∨ q.kind = 4) : q.kind = 4 ∨ terms q.text ≠ [] := by
  obtain ⟨e, _, hn, _⟩ := okQ_node h
  rcases hk with hk | hk | hk
  · right
    unfold nodeOk at hn
    split at hn
    · simp only [leafOk, hk] at hn
      simp [wordsOk, inB] at hn
      intro ht
      have hw : (words q.text) = [] := by simpa [terms] using ht
      have hc : cntW q.text = (splitB 32 q.text).length := by rw [cntW_eq, if_pos]; simp only [List.all_eq_true]; exact hn.1.1.2.1.1
      have : cntW q.text = 0 := by unfold cntW; rw [hw]; split <;> rfl
      have h1 := hn.1.1.2.1.2
      omega
    · simp [hk] at hn
  · right
    unfold nodeOk at hn
    split at hn
    · simp only [leafOk, hk] at hn
      simp [wordsOk, inB] at hn
      intro ht
      have hw : (words q.text) = [] := by simpa [terms] using ht
      have hc : cntW q.text = (splitB 32 q.text).length := by rw [cntW_eq, if_pos]; simp only [List.all_eq_true]; exact hn.1.2.1.1
      have : cntW q.text = 0 := by unfold cntW; rw [hw]; split <;> rfl
      have h1 := hn.1.2.1.2
      omega
    · simp [hk] at hn
  · exact .inl hk
theorem docOk_field {l : List Field} {d : Doc} (h : docOk l d = true) {c : Cell} (hc : c ∈ d.cells) : 0 ≤ fieldIx l c.name ∧ fieldIx l c.name < l.length ∧ l.getD (fieldIx l c.name).toNat default = fieldOf l c.name ∧ (fieldIx l c.name).toNat < l.length := by
  have hk : (fieldOf l c.name).kind ≠ 0 := by
    simp only [docOk, Bool.and_eq_true, List.all_eq_true] at h
    have := h.2 c hc
    intro h0
    simp [cellOk, h0] at this
  rcases fieldIx_cases l c.name with ⟨_, _, h3⟩ | ⟨f1, f2, f3, f4⟩
  · rw [h3] at hk; exact absurd rfl hk
  · exact ⟨by omega, by omega, f4, f2⟩
def findS (fl : List Field) (rows : List DRow) (q : Query) : List Int := (rows.filter fun r => meetsM fl r.doc q).map (·.id)
def RowsD (fl : List Field) (rows : List DRow) : Prop := rows.length ≤ 8 ∧ ∀ r ∈ rows, docOk fl r.doc = true
@[go_sem] theorem ints_snoc1 (l : List Int) (a : Int) : l.map (PV.int .i64) ++ [.int .i64 a] = (l ++ [a]).map (.int .i64) := ints_snoc l a
theorem findS_len (fl : List Field) (rows : List DRow) (q : Query) : (findS fl rows q).length ≤ rows.length := by
  rw [findS, List.length_map]; exact List.length_filter_le _ _
theorem l6Find_R (fl : List Field) (rows : List DRow) (ents : List Entry) (nx : Int) (q : Query) (hfl : FSm fl) (hr : RowsD fl rows) (hq : q.Sm) (dp : Nat) (hok : okQ dp q = true) : R S0 77 [.agg [.sl (fl.map Field.pv), .sl (rows.map DRow.pvF), .sl (ents.map Entry.pvF), .int .i64 nx], .agg [.int .i64 q.kind, .str q.field, .str q.text, .int .i64 q.low, .int .i64 q.high, .sl (q.parts.map pv)]] = some ⟨[none, none], .slo 1 ((findS fl rows q).map (.int .i64))⟩ := by
  obtain ⟨hl, hrs⟩ := id hr
  refine go77 rfl ?_; simp only [go_sem, ↓reduceIte, Nat.reduceAdd, Nat.reduceSub, Nat.reduceEqDiff, Nat.reduceLT, Nat.reduceLeDiff, Nat.reduceMul, Int.reduceNeg, Int.reduceToNat, Int.reduceEq, Int.reduceLT, Int.reduceLE, reduceCtorEq, Tryz.f77]
  refine ends_for rows.length (by omega) (fun i _ => mkSt [(2, .addr 0 0 0), (3, .addr 1 0 0), (5, .own 2), (6, .int .i64 i)] [.pto [.sl (fl.map Field.pv), .sl (rows.map DRow.pvF), .sl (ents.map Entry.pvF), .int .i64 nx], .pto [.int .i64 q.kind, .str q.field, .str q.text, .int .i64 q.low, .int .i64 q.high, .sl (q.parts.map pv)], .slo 1 ((findS fl (rows.take i) q).map (.int .i64))]) (fun _ _ => True) 0 () (by omega) trivial ?_ ?_
  · rintro i _ hi _ hw ih
    obtain ⟨r, hx, hg, _⟩ := drop_get hi default
    have hd := hrs r (List.mem_of_getElem? hx)
    have hds := (docOk_st hd).sm (by omega)
    have hm := specMeets_R6 fl r.doc hfl hds hd dp q hq hok
    have hle := findS_len fl (rows.take i) q
    have hle2 : (findS fl (rows.take i) q).length ≤ 8 := by simp only [List.length_take] at hle; omega
    have ih' := ih () trivial
    cases c : meetsM fl r.doc q with
    | true =>
      have e : findS fl (rows.take (i + 1)) q = findS fl (rows.take i) q ++ [r.id] := by rw [findS, List.take_add_one, hx, List.filter_append]; simp [c, findS]
      rw [c] at hm
      rw [e] at ih'
      simp only [go_sem, ↓reduceIte, Nat.reduceAdd, Nat.reduceSub, Nat.reduceEqDiff, Nat.reduceLT, Nat.reduceLeDiff, Nat.reduceMul, Int.reduceNeg, Int.reduceToNat, Int.reduceEq, Int.reduceLT, Int.reduceLE, reduceCtorEq, hi, hw, hg, hx, hm]
      exact ⟨by omega, ih'⟩
    | false =>
      have e : findS fl (rows.take (i + 1)) q = findS fl (rows.take i) q := by rw [findS, List.take_add_one, hx, List.filter_append]; simp [c, findS]
      rw [c] at hm
      rw [e] at ih'
      simp only [go_sem, ↓reduceIte, Nat.reduceAdd, Nat.reduceSub, Nat.reduceEqDiff, Nat.reduceLT, Nat.reduceLeDiff, Nat.reduceMul, Int.reduceNeg, Int.reduceToNat, Int.reduceEq, Int.reduceLT, Int.reduceLE, reduceCtorEq, hi, hw, hg, hx, hm]
      exact ih'
  · rintro _ _
    simp only [go_sem, ↓reduceIte, Nat.reduceAdd, Nat.reduceSub, Nat.reduceEqDiff, Nat.reduceLT, Nat.reduceLeDiff, Nat.reduceMul, Int.reduceNeg, Int.reduceToNat, Int.reduceEq, Int.reduceLT, Int.reduceLE, reduceCtorEq]
    rw [List.take_length]
end Go.Proofs.YtjagjfjhinlgiaaGreatDoor.PVE
