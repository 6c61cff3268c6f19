/- Which words an index holds: a plain law of madeE's keys; the law of putting in twice. -/
import Derived.Test.YtjagjfjhinlgiaaGreatDoorT43
set_option linter.unusedVariables false
set_option linter.unusedSimpArgs false
set_option maxRecDepth 100000
namespace Go.Proofs.YtjagjfjhinlgiaaGreatDoor.PVE
open PV Query
theorem wordE_keys (l : List Entry) (f t : Str) (d a : Int) (x : Str × Str) : x ∈ (wordE l f t d a).map keyE ↔ x ∈ l.map keyE ∨ x = (f, t) := by
  unfold wordE
  split
  · rename_i h
    obtain ⟨e, h1, h2, h3⟩ := entT_get h
    have hk : entK l f t < l.length := by
      rcases Nat.lt_or_ge (entK l f t) l.length with h | h
      · exact h
      · rw [List.getElem?_eq_none h] at h1; cases h1
    have e1 : (l.set (entK l f t) ⟨f, t, addPost d a (l.getD (entK l f t) default).posts⟩).map keyE = l.map keyE := by
      rw [List.map_set]
      refine List.ext_getElem? fun i => ?_
      rw [List.getElem?_set]
      split
      · rename_i hi
        subst hi
        rw [if_pos (by simpa using hk), List.getElem?_map, h1]
        simp [keyE, h2, h3]
      · rfl
    have e2 : (f, t) ∈ l.map keyE := List.mem_map.2 ⟨e, List.mem_of_getElem? h1, by simp [keyE, h2, h3]⟩
    rw [e1]
    exact ⟨fun h => .inl h, fun h => h.elim id fun h => h ▸ e2⟩
  · have e1 : l.map keyE = (l.take (entK l f t)).map keyE ++ (l.drop (entK l f t)).map keyE := by rw [← List.map_append, List.take_append_drop]
    rw [e1]
    simp only [List.map_append, List.map_cons, List.map_nil, List.mem_append, List.mem_cons, List.not_mem_nil, or_false, keyE]
    constructor
    · rintro ((h | h) | h)
      · exact .inl (.inl h)
      · exact .inr h
      · exact .inl (.inr h)
    · rintro ((h | h) | h)
      · exact .inl (.inl h)
      · exact .inr h
      · exact .inl (.inr h)
theorem wordsTo_keys (f : Str) (id : Int) (ts : List Str) (l : List Entry) (x : Str × Str) : ∀ k, k ≤ ts.length → (x ∈ (wordsTo f id ts l k).map keyE ↔ x ∈ l.map keyE ∨ x.1 = f ∧ x.2 ≠ [] ∧ x.2 ∈ ts.take k)
  | 0, _ => by simp [wordsTo]
  | k + 1, hk => by
    have ih := wordsTo_keys f id ts l x k (by omega)
    obtain ⟨t, hx, hg, _⟩ := drop_get (l := ts) (i := k) (by omega) default
    rw [wordsTo, hg, List.take_add_one, hx]
    split
    · rename_i h
      rw [ih]
      subst h
      simp only [List.mem_append, Option.toList, List.mem_singleton]
      constructor
      · rintro (h | ⟨h1, h2, h3⟩)
        · exact .inl h
        · exact .inr ⟨h1, h2, .inl h3⟩
      · rintro (h | ⟨h1, h2, h3 | h3⟩)
        · exact .inl h
        · exact .inr ⟨h1, h2, h3⟩
        · exact absurd h3 h2
    · rename_i h
      rw [wordE_keys, ih]
      simp only [List.mem_append, Option.toList, List.mem_singleton]
      constructor
      · rintro ((h | ⟨h1, h2, h3⟩) | h4)
        · exact .inl h
        · exact .inr ⟨h1, h2, .inl h3⟩
        · subst h4; exact .inr ⟨rfl, h, .inr rfl⟩
      · rintro (h | ⟨h1, h2, h3 | h3⟩)
        · exact .inl (.inl h)
        · exact .inl (.inr ⟨h1, h2, h3⟩)
        · exact .inr (by rw [← h1, ← h3])
/-- The words of a document's cells. -/
def hasWord (fl : List Field) (cs : List Cell) (x : Str × Str) : Prop := ∃ c ∈ cs, isText fl c.name = true ∧ x.1 = c.name ∧ x.2 ≠ [] ∧ x.2 ∈ terms c.text
theorem cellsTo_keys (fl : List Field) (id : Int) (cs : List Cell) (l : List Entry) (x : Str × Str) : ∀ k, k ≤ cs.length → (x ∈ (cellsTo fl id cs l k).map keyE ↔ x ∈ l.map keyE ∨ hasWord fl (cs.take k) x)
  | 0, _ => by simp [cellsTo, hasWord]
  | k + 1, hk => by
    have ih := cellsTo_keys fl id cs l x k (by omega)
    obtain ⟨c, hx, hg, _⟩ := drop_get (l := cs) (i := k) (by omega) default
    rw [cellsTo, hg, List.take_add_one, hx]
    have hs : hasWord fl (cs.take k ++ (some c).toList) x ↔ hasWord fl (cs.take k) x ∨ (isText fl c.name = true ∧ x.1 = c.name ∧ x.2 ≠ [] ∧ x.2 ∈ terms c.text) := by
      simp only [hasWord, Option.toList, List.mem_append, List.mem_singleton]
      constructor
      · rintro ⟨y, hy | rfl, h⟩
        · exact .inl ⟨y, hy, h⟩
        · exact .inr h
      · rintro (⟨y, hy, h⟩ | h)
        · exact ⟨y, .inl hy, h⟩
        · exact ⟨c, .inr rfl, h⟩
    rw [hs]
    split
    · rename_i h
      rw [wordsTo_keys _ _ _ _ _ _ (Nat.le_refl _), ih, List.take_length]
      simp only [h, true_and, or_assoc]
    · rename_i h
      rw [ih]
      simp only [h, Bool.false_eq_true, false_and, or_false]
theorem madeTo_keys (fl : List Field) (rows : List DRow) (x : Str × Str) : ∀ k, k ≤ rows.length → (x ∈ (madeTo fl rows k).map keyE ↔ ∃ r ∈ rows.take k, hasWord fl r.doc.cells x)
  | 0, _ => by simp [madeTo]
  | k + 1, hk => by
    have ih := madeTo_keys fl rows x k (by omega)
    obtain ⟨r, hx, hg, _⟩ := drop_get (l := rows) (i := k) (by omega) default
    rw [madeTo, docE, hg, cellsTo_keys _ _ _ _ _ _ (Nat.le_refl _), ih, List.take_add_one, hx, List.take_length]
    simp only [Option.toList, List.mem_append, List.mem_singleton]
    constructor
    · rintro (⟨y, hy, h⟩ | h)
      · exact ⟨y, .inl hy, h⟩
      · exact ⟨r, .inr rfl, h⟩
    · rintro ⟨y, hy | rfl, h⟩
      · exact .inl ⟨y, hy, h⟩
      · exact .inr h
theorem madeE_keys (fl : List Field) (rows : List DRow) (x : Str × Str) : x ∈ (madeE fl rows).map keyE ↔ ∃ r ∈ rows, hasWord fl r.doc.cells x := by
  rw [madeE, madeTo_keys _ _ _ _ (Nat.le_refl _), List.take_length]
theorem nodup_le {α : Type} [DecidableEq α] : ∀ {l m : List α}, l.Nodup → (∀ x ∈ l, x ∈ m) → l.length ≤ m.length
  | [], _, _, _ => Nat.zero_le _
  | a :: l, m, h, hs => by
    have h1 := List.nodup_cons.1 h
    have ha := hs a (by simp)
    have := nodup_le (l := l) (m := m.erase a) h1.2 fun x hx => (List.mem_erase_of_ne (by rintro rfl; exact h1.1 hx)).2 (hs x (by simp [hx]))
    rw [List.length_erase_of_mem ha] at this
    have := List.length_pos_of_mem ha
    simp only [List.length_cons]
    omega
theorem made_dist (fl : List Field) (rows : List DRow) : ((madeE fl rows).map keyE).Nodup := distE_iff.1 (sortedE_dist (rows_both fl rows rows.length).1)
theorem madeE_len {fl : List Field} {rows rows2 : List DRow} (h : ∀ d, (∃ r ∈ rows, r.doc = d) ↔ (∃ r ∈ rows2, r.doc = d)) : (madeE fl rows).length = (madeE fl rows2).length := by
  have hw : ∀ x, (∃ r ∈ rows, hasWord fl r.doc.cells x) ↔ (∃ r ∈ rows2, hasWord fl r.doc.cells x) := by
    intro x
    constructor
    · rintro ⟨r, hr, hx⟩
      obtain ⟨r2, h1, h2⟩ := (h r.doc).1 ⟨r, hr, rfl⟩
      exact ⟨r2, h1, h2 ▸ hx⟩
    · rintro ⟨r, hr, hx⟩
      obtain ⟨r2, h1, h2⟩ := (h r.doc).2 ⟨r, hr, rfl⟩
      exact ⟨r2, h1, h2 ▸ hx⟩
  have h1 := nodup_le (made_dist fl rows) (m := (madeE fl rows2).map keyE) fun x hx => (madeE_keys fl rows2 x).2 ((hw x).1 ((madeE_keys fl rows x).1 hx))
  have h2 := nodup_le (made_dist fl rows2) (m := (madeE fl rows).map keyE) fun x hx => (madeE_keys fl rows x).2 ((hw x).2 ((madeE_keys fl rows2 x).1 hx))
  simp only [List.length_map] at h1 h2
  omega
theorem less_put (rows : List DRow) (nx : Int) (d : Doc) : lessKey (putRows rows nx d) d.key = lessKey rows d.key := by
  rw [putRows, lessKey, List.filter_append]
  have := less_none (less_no rows d.key)
  rw [lessKey] at this
  rw [this]; simp [lessKey]
@[go_sem] theorem FnIndexTwice_R (b : Str) (hb : b.length ≤ 9223372036854775807) : R S0 6 [.sl (b.map bytePV)] = some ⟨[none], .bool true⟩ := by
  by_cases h : 1048576 < (b.length : Int)
  · refine go6 rfl ?_; simp only [go_sem, ↓reduceIte, Nat.reduceAdd, Nat.reduceSub, Nat.reduceEqDiff, Nat.reduceLT, Nat.reduceLeDiff, Nat.reduceMul, Int.reduceNeg, Int.reduceToNat, Int.reduceEq, Int.reduceLT, Int.reduceLE, reduceCtorEq, Tryz.f6, h]
  obtain ⟨r, hr, fl, rows, ents, nx, d, rfl, hfl, hrs, hes, hn1, hn2, hds⟩ := drawIndexPut_ex b
  have hd := hds.sm (by omega)
  have hm := hrs.sm (by omega) (by omega)
  have hn : -9223372036854775807 ≤ nx ∧ nx ≤ 9223372036854775807 := by omega
  have hf1 : fl.length ≤ 1099511627776 := hfl.1
  cases hok : indexOkS fl rows ents nx with
  | false =>
    have e1 := implPut_bad fl rows ents nx d hfl hm hes hn hd hok
    have e2 := specPut_bad fl rows ents nx d hfl hm hes hn hd hok
    refine go6 rfl ?_; simp only [go_sem, ↓reduceIte, Nat.reduceAdd, Nat.reduceSub, Nat.reduceEqDiff, Nat.reduceLT, Nat.reduceLeDiff, Nat.reduceMul, Int.reduceNeg, Int.reduceToNat, Int.reduceEq, Int.reduceLT, Int.reduceLE, reduceCtorEq, Tryz.f6, h, hr, hfl, hm, hes, hn, hok, e1, e2, sdIndex0_R]
  | true =>
    obtain ⟨ho1, ho2, ho3, ho4, rfl⟩ := indexOk_parts hok
    cases hc : canPut fl rows nx d with
    | false =>
      have e1 := implPut_none fl rows (madeE fl rows) nx d hfl hm hes hn hd hok hc
      have e2 := specPut_none fl rows (madeE fl rows) nx d hfl hm hes hn hd hok hc
      refine go6 rfl ?_; simp only [go_sem, ↓reduceIte, Nat.reduceAdd, Nat.reduceSub, Nat.reduceEqDiff, Nat.reduceLT, Nat.reduceLeDiff, Nat.reduceMul, Int.reduceNeg, Int.reduceToNat, Int.reduceEq, Int.reduceLT, Int.reduceLE, reduceCtorEq, Tryz.f6, h, hr, hfl, hm, hes, hn, hok, e1, e2, hf1]
    | true =>
      have hI2 := putOk hok hc
      have st2 := indexOk_st hI2
      have hm2 := st2.sm (by omega) (by omega)
      have he2 := made_sm fl (st2.st (by omega) (by omega))
      have e1 := implPut_ok fl rows (madeE fl rows) nx d hfl hm hes hn hd hok hc
      have e2 := specPut_ok fl rows (madeE fl rows) nx d hfl hm hes hn hd hok hc
      have hn3 : -9223372036854775807 ≤ nx + 1 ∧ nx + 1 ≤ 9223372036854775807 := by omega
      by_cases hx : 999999999 ≤ nx + 1
      · refine go6 rfl ?_; simp only [go_sem, ↓reduceIte, Nat.reduceAdd, Nat.reduceSub, Nat.reduceEqDiff, Nat.reduceLT, Nat.reduceLeDiff, Nat.reduceMul, Int.reduceNeg, Int.reduceToNat, Int.reduceEq, Int.reduceLT, Int.reduceLE, reduceCtorEq, Tryz.f6, h, hr, hfl, hm, hes, hn, hok, e1, e2, hf1, hm2, he2, hx]
      · simp only [canPut, Bool.and_eq_true, decide_eq_true_eq] at hc
        have hc2 : canPut fl (putRows rows nx d) (nx + 1) d = true := by
          rw [canPut, less_put]
          simp only [Bool.and_eq_true, decide_eq_true_eq]
          exact ⟨hc.1, by omega, hc.2.2⟩
        have hI3 := putOk hI2 hc2
        have st3 := indexOk_st hI3
        have hm3 := st3.sm (by omega) (by omega)
        have he3 := made_sm fl (st3.st (by omega) (by omega))
        have hn4 : -9223372036854775807 ≤ nx + 1 + 1 ∧ nx + 1 + 1 ≤ 9223372036854775807 := by omega
        have e3 := implPut_ok fl _ _ _ d hfl hm2 he2 hn3 hd hI2 hc2
        have hl1 : (putRows (putRows rows nx d) (nx + 1) d).length = (putRows rows nx d).length := by
          rw [putRows, less_put, putRows, List.length_append, List.length_append]; rfl
        have hl2 : (madeE fl (putRows (putRows rows nx d) (nx + 1) d)).length = (madeE fl (putRows rows nx d)).length := madeE_len fun e => by
          rw [putRows, less_put, putRows]
          simp only [List.mem_append, List.mem_singleton]
          constructor
          · rintro ⟨r, h | rfl, rfl⟩
            · exact ⟨r, .inl h, rfl⟩
            · exact ⟨_, .inr rfl, rfl⟩
          · rintro ⟨r, h | rfl, rfl⟩
            · exact ⟨r, .inl h, rfl⟩
            · exact ⟨_, .inr rfl, rfl⟩
        have hw : IntKind.i64.wrap (nx + 1) = nx + 1 := wrap_in (by omega) (by omega)
        refine go6 rfl ?_; simp only [go_sem, ↓reduceIte, Nat.reduceAdd, Nat.reduceSub, Nat.reduceEqDiff, Nat.reduceLT, Nat.reduceLeDiff, Nat.reduceMul, Int.reduceNeg, Int.reduceToNat, Int.reduceEq, Int.reduceLT, Int.reduceLE, reduceCtorEq, Tryz.f6, h, hr, hfl, hm, hes, hn, hok, e1, e2, e3, hf1, hm2, he2, hx, hI3, hm3, he3, hn4, hl1, hl2, hw]
end Go.Proofs.YtjagjfjhinlgiaaGreatDoor.PVE
