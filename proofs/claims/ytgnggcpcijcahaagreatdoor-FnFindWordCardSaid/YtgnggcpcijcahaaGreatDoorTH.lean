/- Drawn indexes with a document, or a key; the laws of putting in and taking out. -/
import Derived.Test.YtgnggcpcijcahaaGreatDoorTG
set_option linter.unusedVariables false
set_option linter.unusedSimpArgs false
set_option maxRecDepth 100000
namespace Go.Proofs.YtgnggcpcijcahaaGreatDoor.PVE
open PV Query
end Go.Proofs.YtgnggcpcijcahaaGreatDoor.PVE
namespace Go.Proofs.YtgnggcpcijcahaaGreatDoor.PVE
open PV Query
theorem wordE_keys (l : List Entry) (f t : Str) (d a : Int) (x : Str × Str) : x ∈ (wordE l f t d a).map keyE ↔ x ∈ l.map keyE ∨ x = (f, t) := by
  unfold wordE
  split
  · rename_i h
    obtain ⟨e, h1, h2, h3⟩ := entT_get h
    have hk : entK l f t < l.length := by
      rcases Nat.lt_or_ge (entK l f t) l.length with h | h
      · exact h
      · rw [List.getElem?_eq_none h] at h1; cases h1
    have e1 : (l.set (entK l f t) ⟨f, t, addPost d a (l.getD (entK l f t) default).posts⟩).map keyE = l.map keyE := by
      rw [List.map_set]
      refine List.ext_getElem? fun i => ?_
      rw [List.getElem?_set]
      split
      · rename_i hi
        subst hi
        rw [if_pos (by simpa using hk), List.getElem?_map, h1]
        simp [keyE, h2, h3]
      · rfl
    have e2 : (f, t) ∈ l.map keyE := List.mem_map.2 ⟨e, List.mem_of_getElem? h1, by simp [keyE, h2, h3]⟩
    rw [e1]
    exact ⟨fun h => .inl h, fun h => h.elim id fun h => h ▸ e2⟩
  · have e1 : l.map keyE = (l.take (entK l f t)).map keyE ++ (l.drop (entK l f t)).map keyE := by rw [← List.map_append, List.take_append_drop]
    rw [e1]
    simp only [List.map_append, List.map_cons, List.map_nil, List.mem_append, List.mem_cons, List.not_mem_nil, or_false, keyE]
    constructor
    · rintro ((h | h) | h)
      · exact .inl (.inl h)
      · exact .inr h
      · exact .inl (.inr h)
    · rintro ((h | h) | h)
      · exact .inl (.inl h)
      · exact .inr h
      · exact .inl (.inr h)
theorem wordsTo_keys (f : Str) (id : Int) (ts : List Str) (l : List Entry) (x : Str × Str) : ∀ k, k ≤ ts.length → (x ∈ (wordsTo f id ts l k).map keyE ↔ x ∈ l.map keyE ∨ x.1 = f ∧ x.2 ≠ [] ∧ x.2 ∈ ts.take k)
  | 0, _ => by simp [wordsTo]
  | k + 1, hk => by
    have ih := wordsTo_keys f id ts l x k (by omega)
    obtain ⟨t, hx, hg, _⟩ := drop_get (l := ts) (i := k) (by omega) default
    rw [wordsTo, hg, List.take_add_one, hx]
    split
    · rename_i h
      rw [ih]
      subst h
      simp only [List.mem_append, Option.toList, List.mem_singleton]
      constructor
      · rintro (h | ⟨h1, h2, h3⟩)
        · exact .inl h
        · exact .inr ⟨h1, h2, .inl h3⟩
      · rintro (h | ⟨h1, h2, h3 | h3⟩)
        · exact .inl h
        · exact .inr ⟨h1, h2, h3⟩
        · exact absurd h3 h2
    · rename_i h
      rw [wordE_keys, ih]
      simp only [List.mem_append, Option.toList, List.mem_singleton]
      constructor
      · rintro ((h | ⟨h1, h2, h3⟩) | h4)
        · exact .inl h
        · exact .inr ⟨h1, h2, .inl h3⟩
        · subst h4; exact .inr ⟨rfl, h, .inr rfl⟩
      · rintro (h | ⟨h1, h2, h3 | h3⟩)
        · exact .inl (.inl h)
        · exact .inl (.inr ⟨h1, h2, h3⟩)
        · exact .inr (by rw [← h1, ← h3])
def hasWord (fl : List Field) (cs : List Cell) (x : Str × Str) : Prop := ∃ c ∈ cs, isText fl c.name = true ∧ x.1 = c.name ∧ x.2 ≠ [] ∧ x.2 ∈ terms c.text
theorem cellsTo_keys (fl : List Field) (id : Int) (cs : List Cell) (l : List Entry) (x : Str × Str) : ∀ k, k ≤ cs.length → (x ∈ (cellsTo fl id cs l k).map keyE ↔ x ∈ l.map keyE ∨ hasWord fl (cs.take k) x)
  | 0, _ => by simp [cellsTo, hasWord]
  | k + 1, hk => by
    have ih := cellsTo_keys fl id cs l x k (by omega)
    obtain ⟨c, hx, hg, _⟩ := drop_get (l := cs) (i := k) (by omega) default
    rw [cellsTo, hg, List.take_add_one, hx]
    have hs : hasWord fl (cs.take k ++ (some c).toList) x ↔ hasWord fl (cs.take k) x ∨ (isText fl c.name = true ∧ x.1 = c.name ∧ x.2 ≠ [] ∧ x.2 ∈ terms c.text) := by
      simp only [hasWord, Option.toList, List.mem_append, List.mem_singleton]
      constructor
      · rintro ⟨y, hy | rfl, h⟩
        · exact .inl ⟨y, hy, h⟩
        · exact .inr h
      · rintro (⟨y, hy, h⟩ | h)
        · exact ⟨y, .inl hy, h⟩
        · exact ⟨c, .inr rfl, h⟩
    rw [hs]
    split
    · rename_i h
      rw [wordsTo_keys _ _ _ _ _ _ (Nat.le_refl _), ih, List.take_length]
      simp only [h, true_and, or_assoc]
    · rename_i h
      rw [ih]
      simp only [h, Bool.false_eq_true, false_and, or_false]
theorem madeTo_keys (fl : List Field) (rows : List DRow) (x : Str × Str) : ∀ k, k ≤ rows.length → (x ∈ (madeTo fl rows k).map keyE ↔ ∃ r ∈ rows.take k, hasWord fl r.doc.cells x)
  | 0, _ => by simp [madeTo]
  | k + 1, hk => by
    have ih := madeTo_keys fl rows x k (by omega)
    obtain ⟨r, hx, hg, _⟩ := drop_get (l := rows) (i := k) (by omega) default
    rw [madeTo, docE, hg, cellsTo_keys _ _ _ _ _ _ (Nat.le_refl _), ih, List.take_add_one, hx, List.take_length]
    simp only [Option.toList, List.mem_append, List.mem_singleton]
    constructor
    · rintro (⟨y, hy, h⟩ | h)
      · exact ⟨y, .inl hy, h⟩
      · exact ⟨r, .inr rfl, h⟩
    · rintro ⟨y, hy | rfl, h⟩
      · exact .inl ⟨y, hy, h⟩
      · exact .inr h
theorem madeE_keys (fl : List Field) (rows : List DRow) (x : Str × Str) : x ∈ (madeE fl rows).map keyE ↔ ∃ r ∈ rows, hasWord fl r.doc.cells x := by
  rw [madeE, madeTo_keys _ _ _ _ (Nat.le_refl _), List.take_length]
end Go.Proofs.YtgnggcpcijcahaaGreatDoor.PVE
