/- Drawn indexes with a document, or a key; the laws of putting in and taking out. -/
import Derived.Test.YtdebinbhbdlbaaaGreatDoorTG
set_option linter.unusedVariables false
set_option linter.unusedSimpArgs false
set_option maxRecDepth 100000
namespace Go.Proofs.YtdebinbhbdlbaaaGreatDoor.PVE
open PV Query
theorem sdIndex0_R : R S0 16 [.agg [.sl [], .sl [], .sl [], .int .i64 0], .agg [.sl [], .sl [], .sl [], .int .i64 0]] = some ⟨[none, none], .bool true⟩ := sdIndexI_R [] [] [] 0 (by simp) ⟨by simp, by simp⟩ ⟨by simp, by simp⟩
def KeyPost (b : Str) (p c : Nat) (r : Ans) : Prop := ∃ k : Str, ∃ p' : Nat, r = ⟨[some (.pto [.sl (b.map bytePV), .int .i64 (p' : Nat)]), none], .str k⟩ ∧ p ≤ p' ∧ p' ≤ p + c
theorem key_ex (fl : List Field) (rows : List DRow) (ents : List Entry) (nx : Int) (hr : rows.length ≤ 21) (b : Str) (p : Nat) (hp : p + 100 ≤ 1099511627776) (hb : b.length ≤ 2000) : ∃ r, R S0 66 [.pto [.sl (b.map bytePV), .int .i64 p], .agg [.sl (fl.map Field.pv), .sl (rows.map DRow.pvF), .sl (ents.map Entry.pvF), .int .i64 nx]] = some r ∧ KeyPost b p 2 r := by
  have hm := more (p := p) (by omega)
  refine (fun ⟨r, h, hp⟩ => ⟨r, go66 rfl h, hp⟩ : (∃ r, Ends S0 _ _ r ∧ _) → _) ?_
  by_cases h0 : 0 < (rows.length : Int)
  · by_cases h1 : 0 < pickV b p 4
    · have hk := pickV_in (b := b) (p := p + 1) (n := rows.length) (by omega) hb
      have hk2 := hk.2 (by omega)
      have e : pickV b (p + 1) rows.length = ((pickV b (p + 1) rows.length).toNat : Int) := by omega
      have hi : (pickV b (p + 1) rows.length).toNat < rows.length := by omega
      obtain ⟨x, hx, hg, _⟩ := drop_get hi default
      generalize hj : (pickV b (p + 1) rows.length).toNat = j at e hi hx hg
      simp only [go_sem, ↓reduceIte, Nat.reduceAdd, Nat.reduceSub, Nat.reduceEqDiff, Nat.reduceLT, Nat.reduceLeDiff, Nat.reduceMul, Int.reduceNeg, Int.reduceToNat, Int.reduceEq, Int.reduceLT, Int.reduceLE, reduceCtorEq, Tryz.f66, hm, hb, h0, h1, e, hi, hx, hg, ex_if, ex_bool, ex_and, ex_eq]
      exact ⟨by decide +kernel, _, _, rfl, by omega, by omega⟩
    · simp only [go_sem, ↓reduceIte, Nat.reduceAdd, Nat.reduceSub, Nat.reduceEqDiff, Nat.reduceLT, Nat.reduceLeDiff, Nat.reduceMul, Int.reduceNeg, Int.reduceToNat, Int.reduceEq, Int.reduceLT, Int.reduceLE, reduceCtorEq, Tryz.f66, hm, hb, h0, h1, ex_if, ex_bool, ex_and, ex_eq]
      exact ⟨_, _, rfl, by omega, by omega⟩
  · simp only [go_sem, ↓reduceIte, Nat.reduceAdd, Nat.reduceSub, Nat.reduceEqDiff, Nat.reduceLT, Nat.reduceLeDiff, Nat.reduceMul, Int.reduceNeg, Int.reduceToNat, Int.reduceEq, Int.reduceLT, Int.reduceLE, reduceCtorEq, Tryz.f66, hm, hb, h0, ex_if, ex_bool, ex_and, ex_eq]
    exact ⟨_, _, rfl, by omega, by omega⟩
def DDrPost (r : Ans) : Prop := ∃ fl : List Field, ∃ rows : List DRow, ∃ ents : List Entry, ∃ nx : Int, ∃ k : Str, r = ⟨[none], .tup [.agg [.sl (fl.map Field.pv), .sl (rows.map DRow.pvF), .sl (ents.map Entry.pvF), .int .i64 nx], .str k]⟩ ∧ FSm fl ∧ RowsS 21 5 rows ∧ EntSm ents ∧ -1 ≤ nx ∧ nx ≤ 999999999
theorem drawIndexDrop_ex (b : Str) : ∃ r, R S0 22 [.sl (b.map bytePV)] = some r ∧ DDrPost r := by
  have hb : (b.take 2000).length ≤ 2000 := by simp; omega
  obtain ⟨r1, hr1, fl, rows, ents, nx, p1, rfl, h1, h2, hfl, hrs, hes, hn1, hn2⟩ := anyIndex_ex (b.take 2000) 0 (by omega) hb
  obtain ⟨r2, hr2, k, p2, rfl, h3, h4⟩ := key_ex fl rows ents nx hrs.1 (b.take 2000) p1 (by omega) hb
  rw [show ((0 : Nat) : Int) = 0 from rfl] at hr1
  refine (fun ⟨r, h, hp⟩ => ⟨r, go22 rfl h, hp⟩ : (∃ r, Ends S0 _ _ r ∧ _) → _) ?_
  simp only [go_sem, ↓reduceIte, Nat.reduceAdd, Nat.reduceSub, Nat.reduceEqDiff, Nat.reduceLT, Nat.reduceLeDiff, Nat.reduceMul, Int.reduceNeg, Int.reduceToNat, Int.reduceEq, Int.reduceLT, Int.reduceLE, reduceCtorEq, Tryz.f22, hr1, hr2, hb, ex_if, ex_bool, ex_and, ex_eq]
  exact ⟨by decide +kernel, fl, rows, ents, nx, k, rfl, hfl, hrs, hes, hn1, hn2⟩
def DPutPost (r : Ans) : Prop := ∃ fl : List Field, ∃ rows : List DRow, ∃ ents : List Entry, ∃ nx : Int, ∃ d : Doc, r = ⟨[none], .tup [.agg [.sl (fl.map Field.pv), .sl (rows.map DRow.pvF), .sl (ents.map Entry.pvF), .int .i64 nx], .agg [.str d.key, .sl (d.cells.map Cell.pv)]]⟩ ∧ FSm fl ∧ RowsS 21 5 rows ∧ EntSm ents ∧ -1 ≤ nx ∧ nx ≤ 999999999 ∧ DSt 5 d
theorem drawIndexPut_ex (b : Str) : ∃ r, R S0 12 [.sl (b.map bytePV)] = some r ∧ DPutPost r := by
  have hb : (b.take 2000).length ≤ 2000 := by simp; omega
  obtain ⟨r1, hr1, fl, rows, ents, nx, p1, rfl, h1, h2, hfl, hrs, hes, hn1, hn2⟩ := anyIndex_ex (b.take 2000) 0 (by omega) hb
  obtain ⟨r2, hr2, d, p2, rfl, j1, j2, jd⟩ := anyDoc_ex fl hfl (b.take 2000) p1 (by omega) hb
  rw [show ((0 : Nat) : Int) = 0 from rfl] at hr1
  refine (fun ⟨r, h, hp⟩ => ⟨r, go12 rfl h, hp⟩ : (∃ r, Ends S0 _ _ r ∧ _) → _) ?_
  simp only [go_sem, ↓reduceIte, Nat.reduceAdd, Nat.reduceSub, Nat.reduceEqDiff, Nat.reduceLT, Nat.reduceLeDiff, Nat.reduceMul, Int.reduceNeg, Int.reduceToNat, Int.reduceEq, Int.reduceLT, Int.reduceLE, reduceCtorEq, Tryz.f12, hr1, hr2, hb, ex_if, ex_bool, ex_and, ex_eq]
  exact ⟨by decide +kernel, fl, rows, ents, nx, d, rfl, hfl, hrs, hes, hn1, hn2, jd⟩
end Go.Proofs.YtdebinbhbdlbaaaGreatDoor.PVE
namespace Go.Proofs.YtdebinbhbdlbaaaGreatDoor.PVE
open PV Query
theorem wordE_keys (l : List Entry) (f t : Str) (d a : Int) (x : Str × Str) : x ∈ (wordE l f t d a).map keyE ↔ x ∈ l.map keyE ∨ x = (f, t) := by
  unfold wordE
  split
  · rename_i h
    obtain ⟨e, h1, h2, h3⟩ := entT_get h
    have hk : entK l f t < l.length := by
      rcases Nat.lt_or_ge (entK l f t) l.length with h | h
      · exact h
      · rw [List.getElem?_eq_none h] at h1; cases h1
    have e1 : (l.set (entK l f t) ⟨f, t, addPost d a (l.getD (entK l f t) default).posts⟩).map keyE = l.map keyE := by
      rw [List.map_set]
      refine List.ext_getElem? fun i => ?_
      rw [List.getElem?_set]
      split
      · rename_i hi
        subst hi
        rw [if_pos (by simpa using hk), List.getElem?_map, h1]
        simp [keyE, h2, h3]
      · rfl
    have e2 : (f, t) ∈ l.map keyE := List.mem_map.2 ⟨e, List.mem_of_getElem? h1, by simp [keyE, h2, h3]⟩
    rw [e1]
    exact ⟨fun h => .inl h, fun h => h.elim id fun h => h ▸ e2⟩
  · have e1 : l.map keyE = (l.take (entK l f t)).map keyE ++ (l.drop (entK l f t)).map keyE := by rw [← List.map_append, List.take_append_drop]
    rw [e1]
    simp only [List.map_append, List.map_cons, List.map_nil, List.mem_append, List.mem_cons, List.not_mem_nil, or_false, keyE]
    constructor
    · rintro ((h | h) | h)
      · exact .inl (.inl h)
      · exact .inr h
      · exact .inl (.inr h)
    · rintro ((h | h) | h)
      · exact .inl (.inl h)
      · exact .inr h
      · exact .inl (.inr h)
theorem wordsTo_keys (f : Str) (id : Int) (ts : List Str) (l : List Entry) (x : Str × Str) : ∀ k, k ≤ ts.length → (x ∈ (wordsTo f id ts l k).map keyE ↔ x ∈ l.map keyE ∨ x.1 = f ∧ x.2 ≠ [] ∧ x.2 ∈ ts.take k)
  | 0, _ => by simp [wordsTo]
  | k + 1, hk => by
    have ih := wordsTo_keys f id ts l x k (by omega)
    obtain ⟨t, hx, hg, _⟩ := drop_get (l := ts) (i := k) (by omega) default
    rw [wordsTo, hg, List.take_add_one, hx]
    split
    · rename_i h
      rw [ih]
      subst h
      simp only [List.mem_append, Option.toList, List.mem_singleton]
      constructor
      · rintro (h | ⟨h1, h2, h3⟩)
        · exact .inl h
        · exact .inr ⟨h1, h2, .inl h3⟩
      · rintro (h | ⟨h1, h2, h3 | h3⟩)
        · exact .inl h
        · exact .inr ⟨h1, h2, h3⟩
        · exact absurd h3 h2
    · rename_i h
      rw [wordE_keys, ih]
      simp only [List.mem_append, Option.toList, List.mem_singleton]
      constructor
      · rintro ((h | ⟨h1, h2, h3⟩) | h4)
        · exact .inl h
        · exact .inr ⟨h1, h2, .inl h3⟩
        · subst h4; exact .inr ⟨rfl, h, .inr rfl⟩
      · rintro (h | ⟨h1, h2, h3 | h3⟩)
        · exact .inl (.inl h)
        · exact .inl (.inr ⟨h1, h2, h3⟩)
        · exact .inr (by rw [← h1, ← h3])
def hasWord (fl : List Field) (cs : List Cell) (x : Str × Str) : Prop := ∃ c ∈ cs, isText fl c.name = true ∧ x.1 = c.name ∧ x.2 ≠ [] ∧ x.2 ∈ terms c.text
theorem cellsTo_keys (fl : List Field) (id : Int) (cs : List Cell) (l : List Entry) (x : Str × Str) : ∀ k, k ≤ cs.length → (x ∈ (cellsTo fl id cs l k).map keyE ↔ x ∈ l.map keyE ∨ hasWord fl (cs.take k) x)
  | 0, _ => by simp [cellsTo, hasWord]
  | k + 1, hk => by
    have ih := cellsTo_keys fl id cs l x k (by omega)
    obtain ⟨c, hx, hg, _⟩ := drop_get (l := cs) (i := k) (by omega) default
    rw [cellsTo, hg, List.take_add_one, hx]
    have hs : hasWord fl (cs.take k ++ (some c).toList) x ↔ hasWord fl (cs.take k) x ∨ (isText fl c.name = true ∧ x.1 = c.name ∧ x.2 ≠ [] ∧ x.2 ∈ terms c.text) := by
      simp only [hasWord, Option.toList, List.mem_append, List.mem_singleton]
      constructor
      · rintro ⟨y, hy | rfl, h⟩
        · exact .inl ⟨y, hy, h⟩
        · exact .inr h
      · rintro (⟨y, hy, h⟩ | h)
        · exact ⟨y, .inl hy, h⟩
        · exact ⟨c, .inr rfl, h⟩
    rw [hs]
    split
    · rename_i h
      rw [wordsTo_keys _ _ _ _ _ _ (Nat.le_refl _), ih, List.take_length]
      simp only [h, true_and, or_assoc]
    · rename_i h
      rw [ih]
      simp only [h, Bool.false_eq_true, false_and, or_false]
theorem madeTo_keys (fl : List Field) (rows : List DRow) (x : Str × Str) : ∀ k, k ≤ rows.length → (x ∈ (madeTo fl rows k).map keyE ↔ ∃ r ∈ rows.take k, hasWord fl r.doc.cells x)
  | 0, _ => by simp [madeTo]
  | k + 1, hk => by
    have ih := madeTo_keys fl rows x k (by omega)
    obtain ⟨r, hx, hg, _⟩ := drop_get (l := rows) (i := k) (by omega) default
    rw [madeTo, docE, hg, cellsTo_keys _ _ _ _ _ _ (Nat.le_refl _), ih, List.take_add_one, hx, List.take_length]
    simp only [Option.toList, List.mem_append, List.mem_singleton]
    constructor
    · rintro (⟨y, hy, h⟩ | h)
      · exact ⟨y, .inl hy, h⟩
      · exact ⟨r, .inr rfl, h⟩
    · rintro ⟨y, hy | rfl, h⟩
      · exact .inl ⟨y, hy, h⟩
      · exact .inr h
theorem madeE_keys (fl : List Field) (rows : List DRow) (x : Str × Str) : x ∈ (madeE fl rows).map keyE ↔ ∃ r ∈ rows, hasWord fl r.doc.cells x := by
  rw [madeE, madeTo_keys _ _ _ _ (Nat.le_refl _), List.take_length]
theorem nodup_le {α : Type} [DecidableEq α] : ∀ {l m : List α}, l.Nodup → (∀ x ∈ l, x ∈ m) → l.length ≤ m.length
  | [], _, _, _ => Nat.zero_le _
  | a :: l, m, h, hs => by
    have h1 := List.nodup_cons.1 h
    have ha := hs a (by simp)
    have := nodup_le (l := l) (m := m.erase a) h1.2 fun x hx => (List.mem_erase_of_ne (by rintro rfl; exact h1.1 hx)).2 (hs x (by simp [hx]))
    rw [List.length_erase_of_mem ha] at this
    have := List.length_pos_of_mem ha
    simp only [List.length_cons]
    omega
theorem made_dist (fl : List Field) (rows : List DRow) : ((madeE fl rows).map keyE).Nodup := distE_iff.1 (sortedE_dist (rows_both fl rows rows.length).1)
theorem madeE_len {fl : List Field} {rows rows2 : List DRow} (h : ∀ d, (∃ r ∈ rows, r.doc = d) ↔ (∃ r ∈ rows2, r.doc = d)) : (madeE fl rows).length = (madeE fl rows2).length := by
  have hw : ∀ x, (∃ r ∈ rows, hasWord fl r.doc.cells x) ↔ (∃ r ∈ rows2, hasWord fl r.doc.cells x) := by
    intro x
    constructor
    · rintro ⟨r, hr, hx⟩
      obtain ⟨r2, h1, h2⟩ := (h r.doc).1 ⟨r, hr, rfl⟩
      exact ⟨r2, h1, h2 ▸ hx⟩
    · rintro ⟨r, hr, hx⟩
      obtain ⟨r2, h1, h2⟩ := (h r.doc).2 ⟨r, hr, rfl⟩
      exact ⟨r2, h1, h2 ▸ hx⟩
  have h1 := nodup_le (made_dist fl rows) (m := (madeE fl rows2).map keyE) fun x hx => (madeE_keys fl rows2 x).2 ((hw x).1 ((madeE_keys fl rows x).1 hx))
  have h2 := nodup_le (made_dist fl rows2) (m := (madeE fl rows).map keyE) fun x hx => (madeE_keys fl rows x).2 ((hw x).2 ((madeE_keys fl rows2 x).1 hx))
  simp only [List.length_map] at h1 h2
  omega
end Go.Proofs.YtdebinbhbdlbaaaGreatDoor.PVE
