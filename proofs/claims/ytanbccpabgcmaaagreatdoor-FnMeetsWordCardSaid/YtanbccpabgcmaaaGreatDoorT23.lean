/- A document has what its own words ask for. -/
import Derived.Test.YtanbccpabgcmaaaGreatDoorT21
set_option linter.unusedVariables false
set_option linter.unusedSimpArgs false
set_option maxRecDepth 100000
namespace Go.Proofs.YtanbccpabgcmaaaGreatDoor.PVE
open PV Query
@[go_sem] theorem sdKind_R (l : List Field) (n : Str) (hl : l.length ≤ 1099511627776) : R S0 26 [.sl (l.map Field.pv), .str n] = some ⟨[none, none], .int .i64 (fieldOf l n).kind⟩ := by
  refine go26 rfl ?_; simp only [go_sem, ↓reduceIte, Nat.reduceAdd, Nat.reduceSub, Nat.reduceEqDiff, Nat.reduceLT, Nat.reduceLeDiff, Nat.reduceMul, Int.reduceNeg, Int.reduceToNat, Int.reduceEq, Int.reduceLT, Int.reduceLE, reduceCtorEq, Tryz.f26]
  refine ends_for l.length (by omega) (fun i _ => mkSt [(0, .sl (l.map Field.pv)), (1, .str n), (5, .int .i64 i)] []) (fun i _ => ∀ f ∈ l.take i, (decide (f.name = n)) = false) 0 () (by omega) (by simp) ?_ ?_
  · intro i _ hi hI hw ih
    obtain ⟨f, hx, hg, hdr⟩ := drop_get hi default
    simp only [go_sem, ↓reduceIte, Nat.reduceAdd, Nat.reduceSub, Nat.reduceEqDiff, Nat.reduceLT, Nat.reduceLeDiff, Nat.reduceMul, Int.reduceNeg, Int.reduceToNat, Int.reduceEq, Int.reduceLT, Int.reduceLE, reduceCtorEq, hi, hw, hg]
    refine ⟨fun h => ?_, fun h => ih () (take_step hI hx (by simpa using h))⟩
    have := (look_at (p := fun f : Field => decide (f.name = n)) hI hx (by simpa using h)).1
    simp [fieldOf, this]
  · intro _ hI
    rw [List.take_length] at hI
    have := (look_no (p := fun f : Field => decide (f.name = n)) hI).1
    simp only [go_sem, ↓reduceIte, Nat.reduceAdd, Nat.reduceSub, Nat.reduceEqDiff, Nat.reduceLT, Nat.reduceLeDiff, Nat.reduceMul, Int.reduceNeg, Int.reduceToNat, Int.reduceEq, Int.reduceLT, Int.reduceLE, reduceCtorEq]
    simp [fieldOf, this]
    try rfl
theorem terms_trm {t : Str} (h : Trm t) : terms t = [t] := by
  have hw := words_word [] 0 h.1 (by simp)
  rw [List.append_nil] at hw
  have hn : wordsAt (0 + t.length) [] = [] := by rw [wordsAt]
  rw [terms, words, hw, hn]
  simp [h.2.1]
theorem trm_fold {t : Str} (h : Trm t) : foldS t = t := by
  have hs := h.2.1
  unfold stem at hs
  split at hs
  · exact absurd hs.symm h.2.2.1
  · obtain ⟨k, hk, he⟩ := stem_take t
    rw [he] at hs
    have hl : (foldS t).length = t.length := foldS_length t
    have := congrArg List.length hs
    simp at this
    rw [List.take_of_length_le (by omega)] at hs
    exact hs
theorem trm_word1 {t : Str} (h : Trm t) : wordsOk t 1 1 = true := by
  have hw : t.all wordB = true := by have := h.1; simp only [isWord, Bool.and_eq_true] at this; exact this.1
  rw [wordsOk, split_one hw]
  simp only [List.all_cons, List.all_nil, Bool.and_true, h.1, List.length_cons, List.length_nil, Bool.true_and, Bool.and_eq_true, decide_eq_true_eq]
  exact ⟨by decide, by have := h.2.2.2; omega⟩
theorem trm_take1 {t : Str} (h : Trm t) : isWord (t.take 1) = true ∧ foldS (t.take 1) = t.take 1 := by
  have hw := h.1
  have hf := trm_fold h
  cases t with
  | nil => exact absurd rfl h.2.2.1
  | cons b t =>
    simp only [isWord, Bool.and_eq_true, List.all_cons] at hw
    simp only [foldS, List.map_cons, List.cons.injEq] at hf
    refine ⟨?_, ?_⟩
    · simp [isWord, hw.1.1]
    · simp [foldS, hf.1]
theorem cell_weight {l : List Field} {d : Doc} {q : Query} (hf : fieldsOk l = true) {c : Cell} (hc : c ∈ d.cells) (hm : cellM l q c = true) : 0 < weightN l d q := by
  have := sumW_pos (l := l) (q := q) hf d.cells
  rw [weightN]
  have h2 : d.cells.any (cellM l q) = true := List.any_eq_true.2 ⟨c, hc, hm⟩
  rw [h2] at this
  simpa using this
theorem times_word {s t f : Str} {lo hi : Int} {p : List Query} (h : Trm t) (ht : t ∈ terms s) : 0 < timesN (.mk 2 f t lo hi p) s := by
  have hk : ¬ (Query.mk 2 f t lo hi p).kind = 4 := show ¬ (2 : Int) = 4 by decide
  rw [timesN, if_neg hk]
  show 0 < cntTo (runAt (terms s) (terms t)) ((terms s).length + 1 - (terms t).length)
  rw [terms_trm h, cntTo_pos]
  obtain ⟨i, hi, he⟩ := List.getElem_of_mem ht
  refine ⟨i, by simp; omega, ?_⟩
  rw [runAt, List.drop_eq_getElem_cons hi, he]
  simp
theorem times_begin {s t f : Str} {lo hi : Int} {p : List Query} (h : Trm t) (ht : t ∈ terms s) : 0 < timesN (.mk 4 f (t.take 1) lo hi p) s := by
  have hk : (Query.mk 4 f (t.take 1) lo hi p).kind = 4 := show (4 : Int) = 4 from rfl
  rw [timesN, if_pos hk]
  rw [List.countP_pos_iff]
  refine ⟨t, ht, ?_⟩
  show (decide (t ≠ []) && begM (t.take 1) t) = true
  rw [decide_eq_true h.2.2.1, Bool.true_and, begM]
  cases t with
  | nil => exact absurd rfl h.2.2.1
  | cons b t => simp
theorem mem_tnz {s t : Str} (h : t ∈ terms s) (h0 : ¬ t = []) : Trm t := tnz_trm (s := s) (by rw [tnz, List.mem_filter]; exact ⟨h, by simpa using h0⟩)
theorem meets_word {l : List Field} {d : Doc} {c : Cell} {f t : Str} (hd : docOk l d = true) (hc : c ∈ d.cells) (hk : (fieldOf l c.name).kind = 1) (ht : t ∈ terms c.text) (h0 : ¬ t = []) (hf : f = [] ∨ f = c.name) : meetsD l d (.mk 2 f t 0 0 []) = true := by
  have hT := mem_tnz ht h0
  have hfo := (docOk_parts hd).1
  have hn : (decide (f = []) || nameOk f) = true := by
    rcases hf with h | h
    · simp [h]
    · have hcn : nameOk c.name = true := by
        simp only [docOk, Bool.and_eq_true, docForm] at hd
        exact (formL_text _ _ hd.1.2.1.1 c hc).2
      simp [h, hcn]
  have e1 : okQ 4 (.mk 2 f t 0 0 []) = true := by
    have hst : stem t ≠ [] := by rw [hT.2.1]; exact h0
    simp [okQ, nodeOk, leafOk, Query.kind, Query.parts, Query.field, Query.text, Query.low, Query.high, trm_word1 hT, hst]
    rw [Bool.or_eq_true] at hn
    rcases hn with hn | hn
    · exact .inl hn
    · exact .inr hn
  have e2 : fitsI l (.mk 2 f t 0 0 []) = true := by
    rw [fitsI_eq]
    rcases hf with h | h <;> simp [nodeF, kindF, Query.kind, Query.field, h, hk]
  have hm : cellM l (.mk 2 f t 0 0 []) c = true := by
    rw [cellM, decide_eq_true (times_word hT ht), Bool.and_true, looksAt, decide_eq_true hk, Bool.true_and]
    rcases hf with h | h <;> simp [Query.field, h]
  have hw := cell_weight hfo hc hm
  rw [meetsD, hd, hfo, e1, e2, meetsM_eq]
  simp [leafM, Query.kind, hw]
theorem meets_begin {l : List Field} {d : Doc} {c : Cell} {t : Str} (hd : docOk l d = true) (hc : c ∈ d.cells) (hk : (fieldOf l c.name).kind = 1) (ht : t ∈ terms c.text) (h0 : ¬ t = []) : meetsD l d (.mk 4 [] (t.take 1) 0 0 []) = true := by
  have hT := mem_tnz ht h0
  have hfo := (docOk_parts hd).1
  obtain ⟨hw1, hf1⟩ := trm_take1 hT
  have e1 : okQ 4 (.mk 4 [] (t.take 1) 0 0 []) = true := by
    have hl : (t.take 1).length ≤ 12 := by simp; omega
    simp [okQ, nodeOk, leafOk, Query.kind, Query.parts, Query.field, Query.text, Query.low, Query.high, hw1, hf1]
    omega
  have e2 : fitsI l (.mk 4 [] (t.take 1) 0 0 []) = true := by
    rw [fitsI_eq]; simp [nodeF, Query.kind, Query.field]
  have hm : cellM l (.mk 4 [] (t.take 1) 0 0 []) c = true := by
    rw [cellM, decide_eq_true (times_begin hT ht), Bool.and_true, looksAt, decide_eq_true hk, Bool.true_and]
    simp [Query.field]
  have hw := cell_weight hfo hc hm
  rw [meetsD, hd, hfo, e1, e2, meetsM_eq]
  simp [leafM, Query.kind, hw]
theorem meets_all {l : List Field} {d : Doc} (hd : docOk l d = true) : meetsD l d (.mk 1 [] [] 0 0 []) = true := by
  have hfo := (docOk_parts hd).1
  have e1 : okQ 4 (.mk 1 [] [] 0 0 []) = true := by
    simp [okQ, nodeOk, leafOk, Query.kind, Query.parts, Query.field, Query.text, Query.low, Query.high]
  have e2 : fitsI l (.mk 1 [] [] 0 0 []) = true := by
    rw [fitsI_eq]; simp [Query.kind, Query.parts]
  rw [meetsD, hd, hfo, e1, e2, meetsM_eq]
  simp [leafM, Query.kind]
theorem smW {k lo hi : Int} {f t : Str} (hf : f.length ≤ 1099511627776) (ht : t.length ≤ 1099511627776) : (Query.mk k f t lo hi []).Sm := ⟨_, hf, ht, by show 0 ≤ _; omega, fun p hp => by cases hp⟩
theorem implMeetsW (l : List Field) (d : Doc) (k lo hi : Int) (f t : Str) (hl : FSm l) (hd : DSm d) (hf : f.length ≤ 1099511627776) (ht : t.length ≤ 1099511627776) : R S0 28 [.sl (l.map Field.pv), .agg [.str d.key, .sl (d.cells.map Cell.pv)], .agg [.int .i64 k, .str f, .str t, .int .i64 lo, .int .i64 hi, .sl []]] = some ⟨[none, none, none], .bool (meetsD l d (.mk k f t lo hi []))⟩ :=
  implMeets_R l d (.mk k f t lo hi []) hl hd (smW hf ht)
@[go_sem] theorem FnMeetsWord_R (b : Str) (hb : b.length ≤ 9223372036854775807) : R S0 5 [.sl (b.map bytePV)] = some ⟨[none], .bool true⟩ := by
  by_cases h0 : (1048576 : Int) < b.length
  · refine go5 rfl ?_; simp only [go_sem, ↓reduceIte, Nat.reduceAdd, Nat.reduceSub, Nat.reduceEqDiff, Nat.reduceLT, Nat.reduceLeDiff, Nat.reduceMul, Int.reduceNeg, Int.reduceToNat, Int.reduceEq, Int.reduceLT, Int.reduceLE, reduceCtorEq, Tryz.f5, h0]
  obtain ⟨r, hr, l, d, rfl, hl, hdt⟩ := drawDocOk_ex b
  have hd := hdt.sm (by omega)
  have hll := hl.1
  cases c1 : docOk l d with
  | false => refine go5 rfl ?_; simp only [go_sem, ↓reduceIte, Nat.reduceAdd, Nat.reduceSub, Nat.reduceEqDiff, Nat.reduceLT, Nat.reduceLeDiff, Nat.reduceMul, Int.reduceNeg, Int.reduceToNat, Int.reduceEq, Int.reduceLT, Int.reduceLE, reduceCtorEq, Tryz.f5, h0, hr, hl, hd, c1]
  | true =>
  obtain ⟨_, hcl, hcs⟩ := docOk_parts c1
  have k0 := implMeetsW l d 1 0 0 [] [] hl hd (by simp) (by simp)
  rw [meets_all c1] at k0
  refine go5 rfl ?_; simp only [go_sem, ↓reduceIte, Nat.reduceAdd, Nat.reduceSub, Nat.reduceEqDiff, Nat.reduceLT, Nat.reduceLeDiff, Nat.reduceMul, Int.reduceNeg, Int.reduceToNat, Int.reduceEq, Int.reduceLT, Int.reduceLE, reduceCtorEq, Tryz.f5, h0, hr, hl, hd, c1]
  refine ends_for d.cells.length (by omega) (fun i _ => mkSt [(3, .sl (l.map Field.pv)), (4, .addr 0 0 0), (6, .int .i64 i)] [.pto [.str d.key, .sl (d.cells.map Cell.pv)]]) (fun _ _ => True) 0 () (by omega) trivial ?_ ?_
  · rintro i _ hi _ hw ih
    obtain ⟨c, hx, hg, _⟩ := drop_get hi default
    have hcm := List.mem_of_getElem? hx
    obtain ⟨hc1, hc2⟩ := hcs c hcm
    have hc1' : c.text.length ≤ 1099511627776 := by omega
    have hcn : c.name.length ≤ 1099511627776 := by omega
    have ih' := ih () trivial
    by_cases hk : (fieldOf l c.name).kind = 1
    case neg =>
      simp only [go_sem, ↓reduceIte, Nat.reduceAdd, Nat.reduceSub, Nat.reduceEqDiff, Nat.reduceLT, Nat.reduceLeDiff, Nat.reduceMul, Int.reduceNeg, Int.reduceToNat, Int.reduceEq, Int.reduceLT, Int.reduceLE, reduceCtorEq, hi, hw, hg, hx, hll, hk]
      exact ih'
    have hkt := eq_true hk
    have hl1 := words_len2 c.text
    simp only [go_sem, ↓reduceIte, Nat.reduceAdd, Nat.reduceSub, Nat.reduceEqDiff, Nat.reduceLT, Nat.reduceLeDiff, Nat.reduceMul, Int.reduceNeg, Int.reduceToNat, Int.reduceEq, Int.reduceLT, Int.reduceLE, reduceCtorEq, hi, hw, hg, hx, hll, hkt, hc1']
    refine ends_for (terms c.text).length (by omega) (fun j _ => mkSt [(3, .sl (l.map Field.pv)), (4, .addr 0 0 0), (6, .int .i64 i), (7, .own 1), (8, .int .i64 j)] [.pto [.str d.key, .sl (d.cells.map Cell.pv)], .slo 1 ((terms c.text).map .str)]) (fun _ _ => True) 0 () (by omega) trivial ?_ ?_
    · rintro j _ hj _ hwj ihj
      obtain ⟨t, htx, htg, _⟩ := drop_get hj default
      have htm := List.mem_of_getElem? htx
      have ihj' := ihj () trivial
      by_cases hz : t = []
      · simp only [go_sem, ↓reduceIte, Nat.reduceAdd, Nat.reduceSub, Nat.reduceEqDiff, Nat.reduceLT, Nat.reduceLeDiff, Nat.reduceMul, Int.reduceNeg, Int.reduceToNat, Int.reduceEq, Int.reduceLT, Int.reduceLE, reduceCtorEq, hj, hwj, htg, htx, eq_true hz]
        exact ihj'
      have hT := mem_tnz htm hz
      have htl : t.length ≤ 1099511627776 := by have := hT.2.2.2; omega
      have hpos : 0 < t.length := List.length_pos_iff.2 hz
      have hpos' : (1 : Int) ≤ (t.length : Int) := by omega
      have hcut : cut t 0 1 = t.take 1 := by have := cut_take t 1; simpa using this
      have k1 := implMeetsW l d 2 0 0 [] t hl hd (by simp) htl
      have k2 := implMeetsW l d 2 0 0 c.name t hl hd hcn htl
      have k3 := implMeetsW l d 4 0 0 [] (t.take 1) hl hd (by simp) (by simp; omega)
      rw [meets_word c1 hcm hk htm hz (.inl rfl)] at k1
      rw [meets_word c1 hcm hk htm hz (.inr rfl)] at k2
      rw [meets_begin c1 hcm hk htm hz] at k3
      simp only [go_sem, ↓reduceIte, Nat.reduceAdd, Nat.reduceSub, Nat.reduceEqDiff, Nat.reduceLT, Nat.reduceLeDiff, Nat.reduceMul, Int.reduceNeg, Int.reduceToNat, Int.reduceEq, Int.reduceLT, Int.reduceLE, reduceCtorEq, hj, hwj, htg, htx, hz, hi, hg, hx, hpos', hcut, k1, k2, k3]
      exact ⟨by decide +kernel, ihj'⟩
    · rintro _ _
      simp only [go_sem, ↓reduceIte, Nat.reduceAdd, Nat.reduceSub, Nat.reduceEqDiff, Nat.reduceLT, Nat.reduceLeDiff, Nat.reduceMul, Int.reduceNeg, Int.reduceToNat, Int.reduceEq, Int.reduceLT, Int.reduceLE, reduceCtorEq, hw]
      exact ih'
  · rintro _ _
    simp only [go_sem, ↓reduceIte, Nat.reduceAdd, Nat.reduceSub, Nat.reduceEqDiff, Nat.reduceLT, Nat.reduceLeDiff, Nat.reduceMul, Int.reduceNeg, Int.reduceToNat, Int.reduceEq, Int.reduceLT, Int.reduceLE, reduceCtorEq, k0]
end Go.Proofs.YtanbccpabgcmaaaGreatDoor.PVE
