/- Words that begin with a text; prefixes: laws of finding. -/
import Derived.Test.YtgnggcpcijcahaaGreatDoorT53
set_option linter.unusedVariables false
set_option linter.unusedSimpArgs false
set_option maxRecDepth 100000
namespace Go.Proofs.YtgnggcpcijcahaaGreatDoor.PVE
open PV Query
def isBeg (f b : Str) (e : Entry) : Bool := decide (e.field = f) && begM b e.term
def termsOf (ents : List Entry) (f b : Str) : List Str := (ents.filter (isBeg f b)).map (·.term)
theorem termsOf_succ {ents : List Entry} {f b : Str} {i : Nat} {x : Entry} (hx : ents[i]? = some x) : termsOf (ents.take (i + 1)) f b = termsOf (ents.take i) f b ++ (if isBeg f b x = true then [x.term] else []) := by
  rw [termsOf, List.take_add_one, hx, List.filter_append, List.map_append, termsOf]
  congr 1
  cases h : isBeg f b x <;> simp [h]
def termsA (fl : List Field) (rows : List DRow) (ents : List Entry) (nx : Int) (f b : Str) : List Str := if indexOkS fl rows ents nx = true then termsOf ents f b else []
theorem termsOf_len (ents : List Entry) (f b : Str) : (termsOf ents f b).length ≤ ents.length := by
  rw [termsOf, List.length_map]; exact List.length_filter_le _ _
@[go_sem] theorem implTermsIx_R (fl : List Field) (rows : List DRow) (ents : List Entry) (nx : Int) (f b : Str) (hfl : FSm fl) (hr : RowsM rows) (he : EntSm ents) (hn : -9223372036854775808 ≤ nx ∧ nx ≤ 9223372036854775807) : R S0 31 [.agg [.sl (fl.map Field.pv), .sl (rows.map DRow.pvF), .sl (ents.map Entry.pvF), .int .i64 nx], .str f, .str b] = some ⟨[none, none, none], .slo 1 ((termsA fl rows ents nx f b).map .str)⟩ := by
  obtain ⟨hel, hes⟩ := id he
  cases h : indexOkS fl rows ents nx with
  | false =>
    rw [termsA, h, if_neg (by simp)]
    refine go31 rfl ?_; simp only [go_sem, ↓reduceIte, Nat.reduceAdd, Nat.reduceSub, Nat.reduceEqDiff, Nat.reduceLT, Nat.reduceLeDiff, Nat.reduceMul, Int.reduceNeg, Int.reduceToNat, Int.reduceEq, Int.reduceLT, Int.reduceLE, reduceCtorEq, Tryz.f31, hfl, hr, he, hn, h]
  | true =>
    rw [termsA, h, if_pos rfl]
    refine go31 rfl ?_; simp only [go_sem, ↓reduceIte, Nat.reduceAdd, Nat.reduceSub, Nat.reduceEqDiff, Nat.reduceLT, Nat.reduceLeDiff, Nat.reduceMul, Int.reduceNeg, Int.reduceToNat, Int.reduceEq, Int.reduceLT, Int.reduceLE, reduceCtorEq, Tryz.f31, hfl, hr, he, hn, h]
    refine ends_for ents.length (by omega) (fun i _ => mkSt [(1, .str f), (2, .str b), (7, .own 0), (16, .sl (ents.map Entry.pvF)), (17, .int .i64 ents.length), (18, .int .i64 i)] [.slo 1 ((termsOf (ents.take i) f b).map .str)]) (fun _ _ => True) 0 () (by omega) trivial ?_ ?_
    · rintro i _ hi - hw ih
      obtain ⟨x, hx, hg, _⟩ := drop_get hi default
      have ih' := ih () trivial
      have hli : (termsOf (ents.take i) f b).length ≤ 1099511627776 := by
        have := termsOf_len (ents.take i) f b; simp only [List.length_take] at this; omega
      rw [termsOf_succ hx] at ih'
      by_cases c : x.field = f
      · cases c2 : begM b x.term with
        | false =>
          rw [if_neg (by simp [isBeg, c2]), List.append_nil] at ih'
          simp only [go_sem, ↓reduceIte, Nat.reduceAdd, Nat.reduceSub, Nat.reduceEqDiff, Nat.reduceLT, Nat.reduceLeDiff, Nat.reduceMul, Int.reduceNeg, Int.reduceToNat, Int.reduceEq, Int.reduceLT, Int.reduceLE, reduceCtorEq, hi, hw, hg, hx, eq_true c, c2]
          exact ih'
        | true =>
          rw [if_pos (by simp [isBeg, c, c2])] at ih'
          simp only [go_sem, ↓reduceIte, Nat.reduceAdd, Nat.reduceSub, Nat.reduceEqDiff, Nat.reduceLT, Nat.reduceLeDiff, Nat.reduceMul, Int.reduceNeg, Int.reduceToNat, Int.reduceEq, Int.reduceLT, Int.reduceLE, reduceCtorEq, hi, hw, hg, hx, eq_true c, c2]
          exact ⟨by omega, ih'⟩
      · rw [if_neg (by simp [isBeg, c]), List.append_nil] at ih'
        simp only [go_sem, ↓reduceIte, Nat.reduceAdd, Nat.reduceSub, Nat.reduceEqDiff, Nat.reduceLT, Nat.reduceLeDiff, Nat.reduceMul, Int.reduceNeg, Int.reduceToNat, Int.reduceEq, Int.reduceLT, Int.reduceLE, reduceCtorEq, hi, hw, hg, hx, c]
        exact ih'
    · rintro _ -
      rw [List.take_length]
      simp only [go_sem, ↓reduceIte, Nat.reduceAdd, Nat.reduceSub, Nat.reduceEqDiff, Nat.reduceLT, Nat.reduceLeDiff, Nat.reduceMul, Int.reduceNeg, Int.reduceToNat, Int.reduceEq, Int.reduceLT, Int.reduceLE, reduceCtorEq]
@[go_sem] theorem specTermsIx_R (fl : List Field) (rows : List DRow) (ents : List Entry) (nx : Int) (f b : Str) (hfl : FSm fl) (hr : RowsM rows) (he : EntSm ents) (hn : -9223372036854775808 ≤ nx ∧ nx ≤ 9223372036854775807) : R S0 33 [.agg [.sl (fl.map Field.pv), .sl (rows.map DRow.pvF), .sl (ents.map Entry.pvF), .int .i64 nx], .str f, .str b] = some ⟨[none, none, none], .slo 1 ((termsA fl rows ents nx f b).map .str)⟩ := by
  obtain ⟨hel, hes⟩ := id he
  cases h : indexOkS fl rows ents nx with
  | false =>
    rw [termsA, h, if_neg (by simp)]
    refine go33 rfl ?_; simp only [go_sem, ↓reduceIte, Nat.reduceAdd, Nat.reduceSub, Nat.reduceEqDiff, Nat.reduceLT, Nat.reduceLeDiff, Nat.reduceMul, Int.reduceNeg, Int.reduceToNat, Int.reduceEq, Int.reduceLT, Int.reduceLE, reduceCtorEq, Tryz.f33, hfl, hr, he, hn, h]
  | true =>
    rw [termsA, h, if_pos rfl]
    refine go33 rfl ?_; simp only [go_sem, ↓reduceIte, Nat.reduceAdd, Nat.reduceSub, Nat.reduceEqDiff, Nat.reduceLT, Nat.reduceLeDiff, Nat.reduceMul, Int.reduceNeg, Int.reduceToNat, Int.reduceEq, Int.reduceLT, Int.reduceLE, reduceCtorEq, Tryz.f33, hfl, hr, he, hn, h]
    refine ends_for ents.length (by omega) (fun i _ => mkSt [(1, .str f), (2, .str b), (3, .addr 0 0 0), (7, .own 1), (8, .int .i64 i)] [.pto [.sl (fl.map Field.pv), .sl (rows.map DRow.pvF), .sl (ents.map Entry.pvF), .int .i64 nx], .slo 1 ((termsOf (ents.take i) f b).map .str)]) (fun _ _ => True) 0 () (by omega) trivial ?_ ?_
    · rintro i _ hi - hw ih
      obtain ⟨x, hx, hg, _⟩ := drop_get hi default
      have ih' := ih () trivial
      have hli : (termsOf (ents.take i) f b).length ≤ 1099511627776 := by
        have := termsOf_len (ents.take i) f b; simp only [List.length_take] at this; omega
      rw [termsOf_succ hx] at ih'
      by_cases c : x.field = f
      · cases c2 : begM b x.term with
        | false =>
          rw [if_neg (by simp [isBeg, c2]), List.append_nil] at ih'
          simp only [go_sem, ↓reduceIte, Nat.reduceAdd, Nat.reduceSub, Nat.reduceEqDiff, Nat.reduceLT, Nat.reduceLeDiff, Nat.reduceMul, Int.reduceNeg, Int.reduceToNat, Int.reduceEq, Int.reduceLT, Int.reduceLE, reduceCtorEq, hi, hw, hg, hx, eq_true c, c2]
          exact ih'
        | true =>
          rw [if_pos (by simp [isBeg, c, c2])] at ih'
          simp only [go_sem, ↓reduceIte, Nat.reduceAdd, Nat.reduceSub, Nat.reduceEqDiff, Nat.reduceLT, Nat.reduceLeDiff, Nat.reduceMul, Int.reduceNeg, Int.reduceToNat, Int.reduceEq, Int.reduceLT, Int.reduceLE, reduceCtorEq, hi, hw, hg, hx, eq_true c, c2]
          exact ⟨by omega, ih'⟩
      · rw [if_neg (by simp [isBeg, c]), List.append_nil] at ih'
        simp only [go_sem, ↓reduceIte, Nat.reduceAdd, Nat.reduceSub, Nat.reduceEqDiff, Nat.reduceLT, Nat.reduceLeDiff, Nat.reduceMul, Int.reduceNeg, Int.reduceToNat, Int.reduceEq, Int.reduceLT, Int.reduceLE, reduceCtorEq, hi, hw, hg, hx, c]
        exact ih'
    · rintro _ -
      rw [List.take_length]
      simp only [go_sem, ↓reduceIte, Nat.reduceAdd, Nat.reduceSub, Nat.reduceEqDiff, Nat.reduceLT, Nat.reduceLeDiff, Nat.reduceMul, Int.reduceNeg, Int.reduceToNat, Int.reduceEq, Int.reduceLT, Int.reduceLE, reduceCtorEq]
def DTPost (r : Ans) : Prop := ∃ fl : List Field, ∃ rows : List DRow, ∃ ents : List Entry, ∃ nx : Int, ∃ f t : Str, r = ⟨[none], .tup [.agg [.sl (fl.map Field.pv), .sl (rows.map DRow.pvF), .sl (ents.map Entry.pvF), .int .i64 nx], .str f, .str t]⟩ ∧ FSm fl ∧ RowsS 21 5 rows ∧ EntSm ents ∧ -1 ≤ nx ∧ nx ≤ 999999999 ∧ f ≠ [] ∧ f.length ≤ 1000 ∧ t.length ≤ 1000
theorem nameV_ne {b : Str} {p : Nat} (hp : p ≤ 1099511627776) (hb : b.length ≤ 2000) : nameV b p ≠ [] := by
  have := ofV_mem (b := b) (p := p) (l := [[116, 105, 116, 108, 101], [98, 111, 100, 121], [112, 114, 105, 99, 101], [99, 111, 108, 111, 114], [110, 111, 110, 101]]) hp hb (by decide)
  intro h
  rw [nameV] at h
  rw [h] at this
  simp at this
theorem drawIndexTerms_ex (b : Str) : ∃ r, R S0 30 [.sl (b.map bytePV)] = some r ∧ DTPost r := by
  have hb : (b.take 2000).length ≤ 2000 := by simp; omega
  obtain ⟨r1, hr1, fl, rows, ents, nx, p1, rfl, h1, h2, hfl, hrs, hes, hn1, hn2⟩ := anyIndex_ex (b.take 2000) 0 (by omega) hb
  rw [show ((0 : Nat) : Int) = 0 from rfl] at hr1
  have hm := more (p := p1) (by omega)
  refine (fun ⟨r, h, hp⟩ => ⟨r, go30 rfl h, hp⟩ : (∃ r, Ends S0 _ _ r ∧ _) → _) ?_
  simp only [go_sem, ↓reduceIte, Nat.reduceAdd, Nat.reduceSub, Nat.reduceEqDiff, Nat.reduceLT, Nat.reduceLeDiff, Nat.reduceMul, Int.reduceNeg, Int.reduceToNat, Int.reduceEq, Int.reduceLT, Int.reduceLE, reduceCtorEq, Tryz.f30, hr1, hm, hb, ex_if, ex_bool, ex_and, ex_eq]
  exact ⟨fl, rows, ents, nx, _, _, rfl, hfl, hrs, hes, hn1, hn2, nameV_ne (by omega) hb, nameV_len (by omega) hb, ofV_le (by omega) hb (by decide) (by decide)⟩
def begQ (f b : Str) : Query := .mk 4 f b 0 0 []
theorem times_beg {s f b : Str} : 0 < timesN (begQ f b) s ↔ ∃ t ∈ terms s, t ≠ [] ∧ begM b t = true := by
  rw [begQ, timesN, if_pos (show (Query.mk 4 f b 0 0 []).kind = 4 from rfl), List.countP_pos_iff]
  constructor
  · rintro ⟨t, h1, h2⟩
    simp only [Bool.and_eq_true, decide_eq_true_eq] at h2
    exact ⟨t, h1, h2⟩
  · rintro ⟨t, h1, h2⟩
    exact ⟨t, h1, by simp only [Bool.and_eq_true, decide_eq_true_eq]; exact h2⟩
theorem isText_of {fl : List Field} {n : Str} : isText fl n = true ↔ (fieldOf fl n).kind = 1 := isText_kind fl n
theorem beg_union {fl : List Field} {rows : List DRow} (hf : fieldsOk fl = true) {f b : Str} (h0 : f ≠ []) {r : DRow} (hr : r ∈ rows) : meetsM fl r.doc (begQ f b) = (termsOf (madeE fl rows) f b).any fun t => meetsM fl r.doc (wordQ f t) := by
  rw [Bool.eq_iff_iff, leaf_cell hf (.inr (.inr rfl)), List.any_eq_true]
  have lk : ∀ (q : Query) (c : Cell), q.field = f → (looksAt fl q c = true ↔ (fieldOf fl c.name).kind = 1 ∧ f = c.name) := fun q c hq => by
    simp [looksAt, hq, h0]
  constructor
  · rintro ⟨c, hc, hl, ht⟩
    obtain ⟨hk, rfl⟩ := (lk _ c rfl).1 hl
    obtain ⟨t, ht1, ht2, ht3⟩ := times_beg.1 ht
    have hin : (c.name, t) ∈ (madeE fl rows).map keyE := (madeE_keys fl rows _).2 ⟨r, hr, c, hc, isText_of.2 hk, rfl, ht2, ht1⟩
    obtain ⟨e, he, hke⟩ := List.mem_map.1 hin
    simp only [keyE, Prod.mk.injEq] at hke
    refine ⟨t, List.mem_map.2 ⟨e, List.mem_filter.2 ⟨he, by simp [isBeg, hke.1, hke.2, ht3]⟩, hke.2⟩, ?_⟩
    exact (leaf_cell hf (.inl rfl)).2 ⟨c, hc, (lk _ c rfl).2 ⟨hk, rfl⟩, (times_wordQ (mem_tnz ht1 ht2)).2 ht1⟩
  · rintro ⟨t, ht, hm⟩
    obtain ⟨e, he, rfl⟩ := List.mem_map.1 ht
    obtain ⟨he1, he2⟩ := List.mem_filter.1 he
    simp only [isBeg, Bool.and_eq_true, decide_eq_true_eq] at he2
    obtain ⟨r2, hr2, c2, hc2, _, _, hne, htm⟩ := (madeE_keys fl rows (keyE e)).1 (List.mem_map_of_mem he1)
    have hT : Trm e.term := mem_tnz htm hne
    obtain ⟨c, hc, hl, htn⟩ := (leaf_cell hf (.inl rfl)).1 hm
    exact ⟨c, hc, (lk _ c rfl).2 ((lk _ c rfl).1 hl), times_beg.2 ⟨e.term, (times_wordQ hT).1 htn, hne, he2.2⟩⟩
theorem implFind_beg (fl : List Field) (rows : List DRow) (ents : List Entry) (nx : Int) (f t : Str) (hfl : FSm fl) (hr : RowsM rows) (he : EntSm ents) (hn : -9223372036854775808 ≤ nx ∧ nx ≤ 9223372036854775807) (hf : f.length ≤ 1099511627776) (ht : t.length ≤ 1099511627776) : R S0 16 [.agg [.sl (fl.map Field.pv), .sl (rows.map DRow.pvF), .sl (ents.map Entry.pvF), .int .i64 nx], .agg [.int .i64 4, .str f, .str t, .int .i64 0, .int .i64 0, .sl []]] = some ⟨[none, none], .slo 1 ((findA fl rows ents nx (begQ f t)).map (.int .i64))⟩ := implFind_R fl rows ents nx (begQ f t) hfl hr he hn (smW hf ht)
theorem specFits_leaf (l : List Field) (k : Int) (f t : Str) (hl : FSm l) (hf : f.length ≤ 1099511627776) (ht : t.length ≤ 1099511627776) : R S0 14 [.sl (l.map Field.pv), .agg [.int .i64 k, .str f, .str t, .int .i64 0, .int .i64 0, .sl []]] = some ⟨[none, none], .bool (fitsQ l (.mk k f t 0 0 []))⟩ := specQueryFits_R l (.mk k f t 0 0 []) hl (smW hf ht)
@[go_sem] theorem FnFindBegin_R (b : Str) (hb : b.length ≤ 9223372036854775807) : R S0 8 [.sl (b.map bytePV)] = some ⟨[none], .bool true⟩ := by
  by_cases h : 1048576 < (b.length : Int)
  · refine go8 rfl ?_; simp only [go_sem, ↓reduceIte, Nat.reduceAdd, Nat.reduceSub, Nat.reduceEqDiff, Nat.reduceLT, Nat.reduceLeDiff, Nat.reduceMul, Int.reduceNeg, Int.reduceToNat, Int.reduceEq, Int.reduceLT, Int.reduceLE, reduceCtorEq, Tryz.f8, h]
  obtain ⟨r, hr, fl, rows, ents, nx, f, t, rfl, hfl, hrs, hes, hn1, hn2, hf0, hfn, htn⟩ := drawIndexTerms_ex b
  have hm := hrs.sm (by omega) (by omega)
  have hn : -9223372036854775808 ≤ nx ∧ nx ≤ 9223372036854775807 := by omega
  have hfB : f.length ≤ 1099511627776 := by omega
  have htB : t.length ≤ 1099511627776 := by omega
  have htl : (termsA fl rows ents nx f t).length ≤ 1099511627776 := by
    rw [termsA]; split
    · have := termsOf_len ents f t; have := hes.1; omega
    · simp
  have e1 := specFits_leaf fl 4 f t hfl hfB htB
  have e2 := implFind_beg fl rows ents nx f t hfl hm hes hn hfB htB
  cases c1 : indexOkS fl rows ents nx with
  | false => refine go8 rfl ?_; simp only [go_sem, ↓reduceIte, Nat.reduceAdd, Nat.reduceSub, Nat.reduceEqDiff, Nat.reduceLT, Nat.reduceLeDiff, Nat.reduceMul, Int.reduceNeg, Int.reduceToNat, Int.reduceEq, Int.reduceLT, Int.reduceLE, reduceCtorEq, Tryz.f8, h, hr, hfl, hm, hes, hn, hf0, htl, c1]
  | true =>
    cases c2 : fitsQ fl (.mk 4 f t 0 0 []) with
    | false =>
      rw [c2] at e1
      refine go8 rfl ?_; simp only [go_sem, ↓reduceIte, Nat.reduceAdd, Nat.reduceSub, Nat.reduceEqDiff, Nat.reduceLT, Nat.reduceLeDiff, Nat.reduceMul, Int.reduceNeg, Int.reduceToNat, Int.reduceEq, Int.reduceLT, Int.reduceLE, reduceCtorEq, Tryz.f8, h, hr, hfl, hm, hes, hn, hf0, htl, c1, e1]
    | true =>
      rw [c2] at e1
      obtain ⟨ho1, ho2, ho3, ho4, rfl⟩ := indexOk_parts c1
      obtain ⟨_, _, hp3⟩ := rowsOk_iff.1 ho1
      obtain ⟨g1, g2⟩ := leaf_field (q := .mk 4 f t 0 0 []) (.inr (.inr rfl)) c2
      have kT : termsA fl rows (madeE fl rows) nx f t = termsOf (madeE fl rows) f t := by rw [termsA, if_pos c1]
      rw [kT] at htl
      have k1 := findA_ids (ask_of c1 c2)
      have hw : ∀ w ∈ termsOf (madeE fl rows) f t, w.length ≤ 1099511627776 ∧ findA fl rows (madeE fl rows) nx (wordQ f w) = idsP rows fun r => meetsM fl r.doc (wordQ f w) := by
        intro w hw
        obtain ⟨e, he, rfl⟩ := List.mem_map.1 hw
        obtain ⟨he1, _⟩ := List.mem_filter.1 he
        obtain ⟨r2, hr2, c2', hc2, _, _, hne, htm⟩ := (madeE_keys fl rows (keyE e)).1 (List.mem_map_of_mem he1)
        have hT : Trm e.term := mem_tnz htm hne
        exact ⟨by have := hT.2.2.2; omega, findA_ids (ask_of c1 (wordQ_fits ho2 hT g1 g2))⟩
      let S : Nat → List Int := fun i => idsP rows fun r => ((termsOf (madeE fl rows) f t).take i).any fun w => meetsM fl r.doc (wordQ f w)
      have hS0 : S 0 = [] := by show idsP rows _ = []; rw [idsP]; simp
      have hSl : ∀ i, (S i).length ≤ 8 := fun i => idsP_len c1 _
      have hSo : ∀ i, setOkS (S i) = true := fun i => idsP_ok c1 _
      have hSn : S (termsOf (madeE fl rows) f t).length = findA fl rows (madeE fl rows) nx (begQ f t) := by
        show idsP rows _ = _
        rw [List.take_length]
        refine Eq.trans (idsP_congr fun r hr => ?_) k1.symm
        exact (beg_union ho2 hf0 hr).symm
      have hSs : ∀ i w, (termsOf (madeE fl rows) f t)[i]? = some w → uniqI (S i ++ idsP rows fun r => meetsM fl r.doc (wordQ f w)) = S (i + 1) := by
        intro i w hx
        show uniqI (idsP rows _ ++ _) = idsP rows _
        rw [idsP_or hp3]
        refine idsP_congr fun r _ => ?_
        rw [List.take_add_one, hx, List.any_append]; simp
      generalize termsOf (madeE fl rows) f t = T at *
      refine go8 rfl ?_; simp only [go_sem, ↓reduceIte, Nat.reduceAdd, Nat.reduceSub, Nat.reduceEqDiff, Nat.reduceLT, Nat.reduceLeDiff, Nat.reduceMul, Int.reduceNeg, Int.reduceToNat, Int.reduceEq, Int.reduceLT, Int.reduceLE, reduceCtorEq, Tryz.f8, h, hr, hfl, hm, hes, hn, hf0, htl, c1, e1, e2, kT]
      rw [show (PV.slo 1 []) = .slo 1 ((S 0).map (.int .i64)) by rw [hS0]; rfl]
      refine ends_for T.length (by omega) (fun i _ => mkSt [(3, .addr 0 0 0), (4, .str f), (6, .own 1), (7, .addr 2 0 0), (8, .own 3), (9, .int .i64 i)] [.pto [.sl (fl.map Field.pv), .sl (rows.map DRow.pvF), .sl ((madeE fl rows).map Entry.pvF), .int .i64 nx], .slo 1 (T.map .str), .pto [.int .i64 4, .str f, .str t, .int .i64 0, .int .i64 0, .slo 6 []], .slo 1 ((S i).map (.int .i64))]) (fun _ _ => True) 0 () (by omega) trivial ?_ ?_
      · rintro i _ hi - hw2 ih
        obtain ⟨x, hx, hg, _⟩ := drop_get hi default
        have hxm := List.mem_of_getElem? hx
        have ih' := ih () trivial
        obtain ⟨m1, m2⟩ := hw x hxm
        have e3 := implFind_word fl rows (madeE fl rows) nx f x hfl hm hes hn hfB m1
        rw [m2] at e3
        have s1 := setOr_R _ _ (hSo i) (idsP_ok c1 fun r => meetsM fl r.doc (wordQ f x)) (by have := hSl i; omega) (by have := idsP_len c1 fun r => meetsM fl r.doc (wordQ f x); omega)
        rw [hSs i x hx] at s1
        simp only [go_sem, ↓reduceIte, Nat.reduceAdd, Nat.reduceSub, Nat.reduceEqDiff, Nat.reduceLT, Nat.reduceLeDiff, Nat.reduceMul, Int.reduceNeg, Int.reduceToNat, Int.reduceEq, Int.reduceLT, Int.reduceLE, reduceCtorEq, hi, hw2, hg, hx, e3, s1]
        first | exact ih' | exact ⟨by decide +kernel, ih'⟩ | exact ⟨by decide +kernel, by decide +kernel, ih'⟩
      · rintro _ -
        rw [hSn] at *
        have lF : (findA fl rows (madeE fl rows) nx (begQ f t)).length ≤ 1099511627776 := by
          have := findA_len (fl := fl) (rows := rows) (ents := madeE fl rows) (nx := nx) (q := begQ f t); omega
        simp only [go_sem, ↓reduceIte, Nat.reduceAdd, Nat.reduceSub, Nat.reduceEqDiff, Nat.reduceLT, Nat.reduceLeDiff, Nat.reduceMul, Int.reduceNeg, Int.reduceToNat, Int.reduceEq, Int.reduceLT, Int.reduceLE, reduceCtorEq, e2, lF]
end Go.Proofs.YtgnggcpcijcahaaGreatDoor.PVE
