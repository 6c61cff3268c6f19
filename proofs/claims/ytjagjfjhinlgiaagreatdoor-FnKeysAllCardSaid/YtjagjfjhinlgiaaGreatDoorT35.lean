/- The index: the program's entries are the reference's. -/
import Derived.Test.YtjagjfjhinlgiaaGreatDoorT34
set_option linter.unusedVariables false
set_option linter.unusedSimpArgs false
set_option maxRecDepth 100000
namespace Go.Proofs.YtjagjfjhinlgiaaGreatDoor.PVE
open PV
theorem entLt_key (f t : Str) (e : Entry) : entLt f t e = keyLt (keyE e) (f, t) := rfl
theorem entEq_key {f t : Str} {e : Entry} : entEq f t e = true ↔ keyE e = (f, t) := by simp [entEq, keyE]
theorem distE_inj : ∀ {l : List Entry}, DistE l → ∀ {x y : Entry}, x ∈ l → y ∈ l → keyE x = keyE y → x = y
  | [], _, x, y, hx, _, _ => by simp at hx
  | e :: l, h, x, y, hx, hy, hk => by
    have h' := List.pairwise_cons.1 h
    rcases List.mem_cons.1 hx with h1 | h1 <;> rcases List.mem_cons.1 hy with h2 | h2
    · rw [h1, h2]
    · rw [h1] at hk; exact absurd hk (h'.1 y h2)
    · rw [h2] at hk; exact absurd hk.symm (h'.1 x h1)
    · exact distE_inj h'.2 h1 h2 hk
theorem sorted_split (f t : Str) : ∀ ls : List Entry, SortedE ls → ∃ A B, ls = A ++ B ∧ entK ls f t = A.length ∧ (∀ a ∈ A, entLt f t a = true) ∧ ∀ b ∈ B, entLt f t b = false
  | [], _ => ⟨[], [], rfl, rfl, by simp, by simp⟩
  | x :: l, h => by
    have h' := List.pairwise_cons.1 h
    obtain ⟨A, B, h1, h2, h3, h4⟩ := sorted_split f t l h'.2
    cases hx : entLt f t x with
    | true =>
      refine ⟨x :: A, B, by rw [h1]; rfl, ?_, fun a ha => ?_, h4⟩
      · rw [entK, List.takeWhile_cons, if_pos hx, List.length_cons, List.length_cons]
        rw [entK] at h2; omega
      · rcases List.mem_cons.1 ha with rfl | ha
        · exact hx
        · exact h3 a ha
    | false =>
      refine ⟨[], x :: l, rfl, ?_, by simp, fun b hb => ?_⟩
      · rw [entK, List.takeWhile_cons, if_neg (by rw [hx]; simp)]
      · rcases List.mem_cons.1 hb with rfl | hb
        · exact hx
        · cases hc : entLt f t b with
          | false => rfl
          | true =>
            have := keyLt_swo.trans _ _ _ (h'.1 b hb) (by rw [entLt_key] at hc; exact hc)
            rw [entLt_key, this] at hx
            cases hx
theorem sortedE_keys {l m : List Entry} (h : SortedE l) (hk : l.map keyE = m.map keyE) : SortedE m := by
  have h1 : (l.map keyE).Pairwise fun a b => keyLt a b = true := List.pairwise_map.2 h
  rw [hk] at h1
  exact List.pairwise_map.1 h1
theorem sortedE_dist {l : List Entry} (h : SortedE l) : DistE l := h.imp fun {a b} hab hc => by
  rw [show keyE a = keyE b from hc, keyLt_swo.irrefl] at hab; cases hab
theorem word_both {ls lm : List Entry} (hs : SortedE ls) (hp : ls.Perm lm) (f t : Str) (d a : Int) : SortedE (wordE ls f t d a) ∧ (wordE ls f t d a).Perm (mapWord lm f t d a) := by
  have hdl := sortedE_dist hs
  have hdm := hdl.perm hp.symm
  obtain ⟨A, B, rfl, hk, hA, hB⟩ := sorted_split f t ls hs
  have hAno : ∀ x ∈ A, keyE x ≠ (f, t) := fun x hx he => by
    have := hA x hx
    rw [entLt_key, he, keyLt_swo.irrefl] at this; cases this
  by_cases hx : ∃ x ∈ A ++ B, keyE x = (f, t)
  · obtain ⟨x, hxm, hxk⟩ := hx
    have hxB : x ∈ B := (List.mem_append.1 hxm).resolve_left fun h => hAno x h hxk
    obtain ⟨b, B', rfl⟩ : ∃ b B', B = b :: B' := by
      cases B with
      | nil => simp at hxB
      | cons b B' => exact ⟨b, B', rfl⟩
    have hbx : x = b := by
      rcases List.mem_cons.1 hxB with h | h
      · exact h
      · have h1 := (List.pairwise_cons.1 (List.pairwise_append.1 hs).2.1).1 x h
        have h2 := hB b (by simp)
        rw [entLt_key, ← hxk, h1] at h2; cases h2
    subst hbx
    have hg : (A ++ x :: B')[entK (A ++ x :: B') f t]? = some x := by rw [hk]; simp
    have hT : entT (A ++ x :: B') f t = true := by rw [entT, hg]; exact entEq_key.2 hxk
    have hgd : (A ++ x :: B').getD (entK (A ++ x :: B') f t) default = x := by rw [List.getD_eq_getElem?_getD, hg]; rfl
    have hW : wordE (A ++ x :: B') f t d a = A ++ ⟨f, t, addPost d a x.posts⟩ :: B' := by
      rw [wordE, if_pos hT, hgd, hk, List.set_append_right _ _ (Nat.le_refl _), Nat.sub_self]; rfl
    have hke : keyE (⟨f, t, addPost d a x.posts⟩ : Entry) = keyE x := hxk.symm
    rw [hW]
    refine ⟨sortedE_keys hs (by simp only [List.map_append, List.map_cons, hke]), ?_⟩
    have hxl : x ∈ lm := hp.mem_iff.1 hxm
    cases hi : entIx lm f t with
    | none =>
      rw [entIx, List.findIdx?_eq_none_iff] at hi
      have := hi x hxl
      rw [entEq_key.2 hxk] at this; cases this
    | some m =>
      obtain ⟨hml, hme⟩ := entIx_lt hi
      have hy : lm.getD m default = x := by
        have hmem : lm.getD m default ∈ lm := by rw [List.getD_eq_getElem?_getD, List.getElem?_eq_getElem hml]; exact List.getElem_mem hml
        exact distE_inj hdm hmem hxl ((entEq_key.1 hme).trans hxk.symm)
      have hM : mapWord lm f t d a = lm.set m ⟨f, t, addPost d a x.posts⟩ := by rw [mapWord, hi]; simp only [hy]
      have hl : lm = lm.take m ++ x :: lm.drop (m + 1) := by
        have h1 : lm.drop m = x :: lm.drop (m + 1) := by rw [drop_getD hml default, hy]
        rw [← h1, List.take_append_drop]
      have hset : lm.set m ⟨f, t, addPost d a x.posts⟩ = lm.take m ++ ⟨f, t, addPost d a x.posts⟩ :: lm.drop (m + 1) := by
        rw [List.set_eq_take_append_cons_drop, if_pos hml]
      rw [hM, hset]
      have hp2 : (A ++ B').Perm (lm.take m ++ lm.drop (m + 1)) := by
        have h1 : (x :: (A ++ B')).Perm (x :: (lm.take m ++ lm.drop (m + 1))) := by
          refine List.perm_middle.symm.trans (hp.trans ?_)
          rw [hl]
          have : ∀ X Y : List Entry, (X ++ x :: Y).Perm (x :: (X ++ Y)) := fun X Y => List.perm_middle
          rw [← hl]
          conv => lhs; rw [hl]
          exact this _ _
        exact h1.cons_inv
      exact List.perm_middle.trans ((hp2.cons _).trans List.perm_middle.symm)
  · have hno : ∀ x ∈ A ++ B, keyE x ≠ (f, t) := fun x hxm hxk => hx ⟨x, hxm, hxk⟩
    have hT : entT (A ++ B) f t = false := by
      cases hc : entT (A ++ B) f t with
      | false => rfl
      | true =>
        obtain ⟨e, he, h1, h2⟩ := entT_get hc
        exact absurd (by rw [keyE, h1, h2]) (hno e (List.mem_of_getElem? he))
    have hi : entIx lm f t = none := by
      rw [entIx, List.findIdx?_eq_none_iff]
      intro x hxl
      cases hc : entEq f t x with
      | false => rfl
      | true => exact absurd (entEq_key.1 hc) (hno x (hp.mem_iff.2 hxl))
    have hW : wordE (A ++ B) f t d a = A ++ ⟨f, t, [⟨d, [a]⟩]⟩ :: B := by
      rw [wordE, if_neg (by rw [hT]; simp), hk]; simp
    have hM : mapWord lm f t d a = lm ++ [⟨f, t, [⟨d, [a]⟩]⟩] := by rw [mapWord, hi]
    rw [hW, hM]
    have hsp := List.pairwise_append.1 hs
    refine ⟨List.pairwise_append.2 ⟨hsp.1, List.pairwise_cons.2 ⟨fun b hb => ?_, hsp.2.1⟩, fun x hxA y hy => ?_⟩, ?_⟩
    · have h1 := hB b hb
      rw [entLt_key] at h1
      exact (keyLt_tri (hno b (by simp [hb])).symm).resolve_right fun h => by rw [h1] at h; cases h
    · rcases List.mem_cons.1 hy with rfl | hy
      · exact hA x hxA
      · exact hsp.2.2 x hxA y hy
    · exact List.perm_middle.trans ((hp.cons _).trans (List.perm_append_singleton _ _).symm)
theorem words_both {ls lm : List Entry} (hs : SortedE ls) (hp : ls.Perm lm) (f : Str) (id : Int) (ts : List Str) : ∀ k, SortedE (wordsTo f id ts ls k) ∧ (wordsTo f id ts ls k).Perm (mWordsTo f id ts lm k)
  | 0 => ⟨hs, hp⟩
  | k + 1 => by
    obtain ⟨h1, h2⟩ := words_both hs hp f id ts k
    rw [wordsTo, mWordsTo]
    split
    · exact ⟨h1, h2⟩
    · exact word_both h1 h2 _ _ _ _
theorem isText_kind (fl : List Field) (n : Str) : isText fl n = true ↔ (fieldOf fl n).kind = 1 := by
  simp only [isText, Bool.and_eq_true, decide_eq_true_eq]
  exact ⟨fun h => h.2, fun h => ⟨kindAny (by decide) h, h⟩⟩
theorem cells_both {ls lm : List Entry} (hs : SortedE ls) (hp : ls.Perm lm) (fl : List Field) (id : Int) (cs : List Cell) : ∀ k, SortedE (cellsTo fl id cs ls k) ∧ (cellsTo fl id cs ls k).Perm (mCellsTo fl id cs lm k)
  | 0 => ⟨hs, hp⟩
  | k + 1 => by
    obtain ⟨h1, h2⟩ := cells_both hs hp fl id cs k
    rw [cellsTo, mCellsTo]
    by_cases hk : (fieldOf fl (cs.getD k default).name).kind = 1
    · rw [if_pos ((isText_kind _ _).2 hk), if_pos hk]
      exact words_both h1 h2 _ _ _ _
    · rw [if_neg (fun h => hk ((isText_kind _ _).1 h)), if_neg hk]
      exact ⟨h1, h2⟩
theorem rows_both (fl : List Field) (rows : List DRow) : ∀ k, SortedE (madeTo fl rows k) ∧ (madeTo fl rows k).Perm (mRowsTo fl rows k)
  | 0 => ⟨List.Pairwise.nil, .rfl⟩
  | k + 1 => by
    obtain ⟨h1, h2⟩ := rows_both fl rows k
    exact cells_both h1 h2 fl _ _ _
theorem made_is (fl : List Field) (rows : List DRow) : sortEnt (mRowsTo fl rows rows.length) = madeE fl rows := by
  obtain ⟨h1, h2⟩ := rows_both fl rows rows.length
  have hd := DistE.mrows fl rows rows.length
  exact sortedE_eq ((sortEnt_perm _).trans h2.symm) (sortEnt_sorted _ hd) h1
@[go_sem] theorem implEntries_R (fl : List Field) (rows : List DRow) (hfl : fl.length ≤ 1099511627776) (hr : RowsSt rows) : R S0 47 [.sl (fl.map Field.pv), .sl (rows.map DRow.pvF)] = some ⟨[none, none], .slo 3 ((madeE fl rows).map Entry.pv)⟩ := by
  rw [entries_R fl rows hfl hr, made_is]
end Go.Proofs.YtjagjfjhinlgiaaGreatDoor.PVE
