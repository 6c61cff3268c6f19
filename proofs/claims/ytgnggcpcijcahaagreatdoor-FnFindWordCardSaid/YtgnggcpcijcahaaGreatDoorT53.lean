/- A word that is looked for; phrases: laws of finding. -/
import Derived.Test.YtgnggcpcijcahaaGreatDoorT52
set_option linter.unusedVariables false
set_option linter.unusedSimpArgs false
set_option maxRecDepth 100000
namespace Go.Proofs.YtgnggcpcijcahaaGreatDoor.PVE
open PV Query
theorem terms_trm {t : Str} (h : Trm t) : terms t = [t] := by
  have hw := words_word [] 0 h.1 (by simp)
  rw [List.append_nil] at hw
  have hn : wordsAt (0 + t.length) [] = [] := by rw [wordsAt]
  rw [terms, words, hw, hn]
  simp [h.2.1]
theorem trm_word1 {t : Str} (h : Trm t) : wordsOk t 1 1 = true := by
  have hw : t.all wordB = true := by have := h.1; simp only [isWord, Bool.and_eq_true] at this; exact this.1
  rw [wordsOk, split_one hw]
  simp only [List.all_cons, List.all_nil, Bool.and_true, h.1, List.length_cons, List.length_nil, Bool.true_and, Bool.and_eq_true, decide_eq_true_eq]
  exact ⟨by decide, by have := h.2.2.2; omega⟩
theorem times_word {s t f : Str} {lo hi : Int} {p : List Query} (h : Trm t) (ht : t ∈ terms s) : 0 < timesN (.mk 2 f t lo hi p) s := by
  rw [timesN, if_neg (by show ¬ (2 : Int) = 4; decide)]
  show 0 < cntTo (runAt (terms s) (terms t)) ((terms s).length + 1 - (terms t).length)
  rw [terms_trm h, cntTo_pos]
  obtain ⟨i, hi, he⟩ := List.getElem_of_mem ht
  refine ⟨i, by simp; omega, ?_⟩
  rw [runAt, List.drop_eq_getElem_cons hi, he]
  simp
theorem mem_tnz {s t : Str} (h : t ∈ terms s) (h0 : ¬ t = []) : Trm t := tnz_trm (s := s) (by rw [tnz, List.mem_filter]; exact ⟨h, by simpa using h0⟩)
theorem smW {k lo hi : Int} {f t : Str} (hf : f.length ≤ 1099511627776) (ht : t.length ≤ 1099511627776) : (Query.mk k f t lo hi []).Sm := ⟨_, hf, ht, by show 0 ≤ _; omega, fun p hp => by cases hp⟩
def wordQ (f t : Str) : Query := .mk 2 f t 0 0 []
theorem wordQ_fits {fl : List Field} {f t : Str} (h1 : fieldsOk fl = true) (hT : Trm t) (hn : (decide (f = []) || nameOk f) = true) (hk : (decide (f = []) || kindF fl f 1) = true) : fitsQ fl (wordQ f t) = true := by
  have e1 : okQ 4 (wordQ f t) = true := by
    have hst : stem t ≠ [] := by rw [hT.2.1]; exact hT.2.2.1
    simp [wordQ, okQ, nodeOk, leafOk, Query.kind, Query.parts, Query.field, Query.text, Query.low, Query.high, trm_word1 hT, hst]
    exact (Bool.or_eq_true _ _).mp hn
  have e2 : fitsI fl (wordQ f t) = true := by
    rw [wordQ, fitsI_eq]
    simp [nodeF, Query.kind, Query.field]
    exact (Bool.or_eq_true _ _).mp hk
  rw [fitsQ, h1, e1, e2]; rfl
theorem leaf_cell {fl : List Field} {d : Doc} {q : Query} (h : fieldsOk fl = true) (hk : q.kind = 2 ∨ q.kind = 3 ∨ q.kind = 4) : meetsM fl d q = true ↔ ∃ c ∈ d.cells, looksAt fl q c = true ∧ 0 < timesN q c.text := by
  have e : meetsM fl d q = decide (0 < weightN fl d q) := by
    rw [meetsM_eq, if_neg (by omega), if_neg (by omega), if_neg (by omega), leafM, if_neg (by omega), if_neg (by omega), if_neg (by omega)]
  rw [e, weightN, sumW_pos h, List.any_eq_true]
  constructor
  · rintro ⟨c, h1, h2⟩
    rw [cellM, Bool.and_eq_true, decide_eq_true_eq] at h2
    exact ⟨c, h1, h2⟩
  · rintro ⟨c, h1, h2⟩
    exact ⟨c, h1, by rw [cellM, Bool.and_eq_true, decide_eq_true_eq]; exact h2⟩
theorem times_wordQ {s f t : Str} (h : Trm t) : 0 < timesN (wordQ f t) s ↔ t ∈ terms s := by
  constructor
  · intro hc
    rw [wordQ, timesN, if_neg (by show ¬ (2 : Int) = 4; decide)] at hc
    change 0 < cntTo (runAt (terms s) (terms t)) ((terms s).length + 1 - (terms t).length) at hc
    rw [terms_trm h, cntTo_pos] at hc
    obtain ⟨i, hi, he⟩ := hc
    rw [runAt, decide_eq_true_eq] at he
    have : t ∈ ((terms s).drop i).take [t].length := by rw [he]; simp
    exact List.mem_of_mem_drop (List.mem_of_mem_take this)
  · exact times_word h
theorem leafOk_field {q : Query} (hk : q.kind = 2 ∨ q.kind = 3 ∨ q.kind = 4) (h : leafOk q = true) : (decide (q.field = []) || nameOk q.field) = true := by
  unfold leafOk at h
  generalize q.kind = k at *
  rcases hk with rfl | rfl | rfl
  · simp only [Int.reduceEq, if_false, if_true, Bool.and_eq_true] at h
    exact h.1.1.1
  · simp only [Int.reduceEq, if_false, if_true, Bool.and_eq_true] at h
    exact h.1.1
  · simp only [Int.reduceEq, if_false, if_true, Bool.and_eq_true] at h
    exact h.1.1.1.1
theorem leaf_field {fl : List Field} {q : Query} (hk : q.kind = 2 ∨ q.kind = 3 ∨ q.kind = 4) (h : (fieldsOk fl && okQ 4 q && fitsI fl q) = true) : (decide (q.field = []) || nameOk q.field) = true ∧ (decide (q.field = []) || kindF fl q.field 1) = true := by
  simp only [Bool.and_eq_true] at h
  obtain ⟨⟨h1, h2⟩, h3⟩ := h
  constructor
  · rw [okQ, Bool.and_eq_true] at h2
    have h2 := h2.1
    by_cases hp : q.parts = []
    · rw [nodeOk, if_pos hp] at h2
      exact leafOk_field hk h2
    · rw [nodeOk, if_neg hp] at h2
      have n7 : ¬ q.kind = 7 := by omega
      have n8 : ¬ q.kind = 8 := by omega
      have n9 : ¬ q.kind = 9 := by omega
      simp [n7, n8, n9] at h2
  · obtain ⟨k, f, t, lo, hi, p⟩ := q
    simp only [Query.kind] at hk
    have hk2 : 2 ≤ k ∧ k ≤ 6 := by omega
    rw [fitsI, if_pos hk2, nodeF, if_pos (by simpa [Query.kind] using hk)] at h3
    exact h3
theorem implFind_word (fl : List Field) (rows : List DRow) (ents : List Entry) (nx : Int) (f t : Str) (hfl : FSm fl) (hr : RowsM rows) (he : EntSm ents) (hn : -9223372036854775808 ≤ nx ∧ nx ≤ 9223372036854775807) (hf : f.length ≤ 1099511627776) (ht : t.length ≤ 1099511627776) : R S0 16 [.agg [.sl (fl.map Field.pv), .sl (rows.map DRow.pvF), .sl (ents.map Entry.pvF), .int .i64 nx], .agg [.int .i64 2, .str f, .str t, .int .i64 0, .int .i64 0, .sl []]] = some ⟨[none, none], .slo 1 ((findA fl rows ents nx (wordQ f t)).map (.int .i64))⟩ := implFind_R fl rows ents nx (wordQ f t) hfl hr he hn (smW hf ht)
end Go.Proofs.YtgnggcpcijcahaaGreatDoor.PVE
