/- The plain law of a question's terms: sorted and each once, both ways. -/
import Derived.Test.YtjagjfjhinlgiaaGreatDoorT9
import Derived.Sort.Walk0
set_option linter.unusedVariables false
set_option linter.unusedSimpArgs false
set_option maxRecDepth 100000
namespace Go.Proofs.YtjagjfjhinlgiaaGreatDoor.PVE
open PV Query
/-- Strictly ascending. -/
abbrev Asc (l : List Str) : Prop := l.Pairwise (· < ·)
theorem bl_iff {x y : Str} : (Go.Op.bytesLess x y = true) = (x < y) := by rw [Go.Proofs.bytesLess_eq]; simp
theorem addS_mem {x : Str} : ∀ {l : List Str} {t : Str}, x ∈ addS l t ↔ x = t ∨ x ∈ l
  | [], t => by simp [addS]
  | y :: l, t => by
    rw [addS]
    split
    · rw [List.mem_cons, addS_mem, List.mem_cons]; grind
    · split
      · rename_i h; subst h; simp
      · simp
theorem str_tri {x y : Str} (h1 : ¬ x < y) (h2 : ¬ x = y) : y < x := by
  rcases Std.lt_trichotomy x y with h | h | h
  · exact absurd h h1
  · exact absurd h h2
  · exact h
theorem addS_asc : ∀ {l : List Str} {t : Str}, Asc l → Asc (addS l t)
  | [], t, _ => by simp [addS]
  | y :: l, t, h => by
    have hy := List.pairwise_cons.1 h
    rw [addS]
    split
    · rename_i hb
      rw [bl_iff] at hb
      refine List.pairwise_cons.2 ⟨fun z hz => ?_, addS_asc hy.2⟩
      rcases addS_mem.1 hz with rfl | hz
      · exact hb
      · exact hy.1 z hz
    · rename_i hb
      rw [bl_iff] at hb
      split
      · exact h
      · rename_i he
        have hlt := str_tri hb he
        refine List.pairwise_cons.2 ⟨fun z hz => ?_, h⟩
        rcases List.mem_cons.1 hz with rfl | hz
        · exact hlt
        · exact List.lt_trans hlt (hy.1 z hz)
theorem foldAdd : ∀ (m l : List Str), Asc l → Asc (m.foldl addS l) ∧ ∀ x, x ∈ m.foldl addS l ↔ x ∈ l ∨ x ∈ m
  | [], l, h => ⟨h, fun x => by simp⟩
  | t :: m, l, h => by
    have := foldAdd m (addS l t) (addS_asc h)
    refine ⟨this.1, fun x => ?_⟩
    rw [List.foldl_cons, this.2 x, addS_mem, List.mem_cons]
    grind
theorem asc_ext : ∀ {l m : List Str}, Asc l → Asc m → (∀ x, x ∈ l ↔ x ∈ m) → l = m
  | [], [], _, _, _ => rfl
  | [], y :: m, _, _, h => absurd ((h y).2 (by simp)) (by simp)
  | y :: l, [], _, _, h => absurd ((h y).1 (by simp)) (by simp)
  | x :: l, y :: m, h1, h2, h => by
    have hx := List.pairwise_cons.1 h1
    have hy := List.pairwise_cons.1 h2
    have hxy : x = y := by
      rcases List.mem_cons.1 ((h x).1 (by simp)) with e | e
      · exact e
      · rcases List.mem_cons.1 ((h y).2 (by simp)) with e2 | e2
        · exact e2.symm
        · exact absurd (hx.1 y e2) (List.lt_asymm (hy.1 x e))
    subst hxy
    congr 1
    refine asc_ext hx.2 hy.2 fun z => ?_
    have hz := h z
    simp only [List.mem_cons] at hz
    constructor
    · intro hm
      rcases hz.1 (.inr hm) with rfl | h
      · exact absurd (hx.1 z hm) (List.lt_irrefl z)
      · exact h
    · intro hm
      rcases hz.2 (.inr hm) with rfl | h
      · exact absurd (hy.1 z hm) (List.lt_irrefl z)
      · exact h
theorem compact_mem {x : Str} (l : List Str) : x ∈ Lib.compact l ↔ x ∈ l := by
  unfold Lib.compact Lib.compactUpTo
  simp only [List.mem_map, List.mem_filter, List.mem_range]
  constructor
  · rintro ⟨j, ⟨hj, _⟩, rfl⟩
    rw [getElem!_pos (l.toArray) j (by simpa using hj)]
    simp
  · intro hx
    obtain ⟨i, hi, rfl⟩ := List.getElem_of_mem hx
    have key : ∀ i (hi : i < l.length), ∃ j, (j < l.length ∧ Lib.keeps l.toArray j = true) ∧ l.toArray[j]! = l[i] := by
      intro i
      induction i with
      | zero => intro hi; exact ⟨0, ⟨hi, by simp [Lib.keeps]⟩, by rw [getElem!_pos (l.toArray) 0 (by simpa using hi)]; simp⟩
      | succ i ih =>
        intro hi
        have e1 : l.toArray[i + 1]! = l[i + 1] := by rw [getElem!_pos (l.toArray) (i + 1) (by simpa using hi)]; simp
        have e0 : l.toArray[i]! = l[i] := by rw [getElem!_pos (l.toArray) i (by simp; omega)]; simp
        by_cases hk : Lib.keeps l.toArray (i + 1) = true
        · exact ⟨i + 1, ⟨hi, hk⟩, e1⟩
        · obtain ⟨j, hj, hj2⟩ := ih (by omega)
          refine ⟨j, hj, ?_⟩
          simp only [Lib.keeps, decide_eq_true_eq, not_or, Nat.add_sub_cancel, ne_eq, Decidable.not_not] at hk
          rw [hj2, ← e1, hk.2, e0]
    obtain ⟨j, h1, h2⟩ := key i hi
    exact ⟨j, h1, h2⟩
theorem compact_asc (l : List Str) (h : l.Pairwise (· ≤ ·)) : Asc (Lib.compact l) := by
  unfold Lib.compact Lib.compactUpTo Asc
  rw [List.pairwise_map, List.pairwise_filter]
  have h2 : (List.range l.length).Pairwise (fun a b => a < b ∧ b < l.length) := by
    refine List.Pairwise.imp_of_mem (R := (· < ·)) ?_ List.pairwise_lt_range
    intro a b ha hb hab
    exact ⟨hab, by simpa using hb⟩
  refine h2.imp ?_
  rintro a b ⟨hab, hb⟩ _ hk
  simp only [Lib.keeps, decide_eq_true_eq] at hk
  have hk := hk.resolve_left (by omega)
  rw [getElem!_pos (l.toArray) b (by simpa using hb), getElem!_pos (l.toArray) (b - 1) (by simp; omega)] at hk
  rw [getElem!_pos (l.toArray) b (by simpa using hb), getElem!_pos (l.toArray) a (by simp; omega)]
  simp only [List.getElem_toArray] at hk ⊢
  rw [List.pairwise_iff_getElem] at h
  have h1 : l[b - 1] ≤ l[b] := h (b - 1) b (by omega) hb (by omega)
  have h3 : l[a] ≤ l[b - 1] := by
    by_cases e : a = b - 1
    · subst e; exact Std.le_refl _
    · exact h a (b - 1) (by omega) (by omega) (by omega)
  have h4 : l[b - 1] < l[b] := Std.lt_of_le_of_ne h1 fun e => hk e.symm
  exact Std.lt_of_le_of_lt h3 h4
theorem uniq_asc (l : List Str) : Asc (uniq l) := by
  refine compact_asc _ ?_
  have := List.pairwise_mergeSort (le := leStr) (fun a b c h1 h2 => by simp only [leStr, decide_eq_true_eq] at *; exact Std.le_trans h1 h2) (fun a b => by simp only [leStr, Bool.or_eq_true, decide_eq_true_eq]; exact Std.le_total) l
  exact this.imp fun h => by simpa [leStr] using h
theorem uniq_mem {x : Str} (l : List Str) : x ∈ uniq l ↔ x ∈ l := by
  rw [uniq, compact_mem, List.mem_mergeSort]
/-! ### The terms of a question -/
theorem foldI_mem {x : Str} : ∀ (l : List Query) (out : List Str), (∀ q ∈ l, ∀ out, x ∈ termsI q out ↔ x ∈ out ∨ x ∈ termsI q []) → (x ∈ l.foldl (fun out q => termsI q out) out ↔ x ∈ out ∨ ∃ p ∈ l, x ∈ termsI p [])
  | [], out, _ => by simp
  | q :: l, out, h => by
    rw [List.foldl_cons, foldI_mem l _ fun p hp => h p (List.mem_cons_of_mem _ hp), h q (by simp)]
    simp only [List.mem_cons, exists_eq_or_imp]
    grind
theorem termsI_mem {x : Str} (q : Query) : ∀ out, x ∈ termsI q out ↔ x ∈ out ∨ x ∈ termsI q [] := by
  refine Query.ind (P := fun q => ∀ out, x ∈ termsI q out ↔ x ∈ out ∨ x ∈ termsI q []) (fun q ih out => ?_) q
  rw [termsI_eq q out, termsI_eq q []]
  split
  · simp
  · split
    · rw [foldI_mem _ _ ih, foldI_mem _ _ ih]; simp
    · simp
theorem foldS_mem {x : Str} {d : Nat} : ∀ (l : List Query) (out : List Str), Asc out → (∀ q ∈ l, ∀ out, Asc out → Asc (termsS q out) ∧ (x ∈ termsS q out ↔ x ∈ out ∨ x ∈ termsI q [])) → Asc (l.foldl (fun out q => termsS q out) out) ∧ (x ∈ l.foldl (fun out q => termsS q out) out ↔ x ∈ out ∨ ∃ p ∈ l, x ∈ termsI p [])
  | [], out, ha, _ => by simpa using ha
  | q :: l, out, ha, h => by
    have h1 := h q (by simp) out ha
    have h2 := foldS_mem (d := d) l (termsS q out) h1.1 fun p hp => h p (List.mem_cons_of_mem _ hp)
    refine ⟨h2.1, ?_⟩
    rw [List.foldl_cons, h2.2, h1.2]
    simp only [List.mem_cons, exists_eq_or_imp]
    grind
theorem nodeOk_parts {q : Query} (h : nodeOk q = true) (hp : q.parts ≠ []) : q.kind = 7 ∨ q.kind = 8 ∨ q.kind = 9 := by
  unfold nodeOk at h
  rw [if_neg hp] at h
  simp only [Bool.and_eq_true, Bool.or_eq_true, decide_eq_true_eq] at h
  omega
theorem termsS_mem {x : Str} (d : Nat) : ∀ (q : Query), okQ d q = true → ∀ out, Asc out → Asc (termsS q out) ∧ (x ∈ termsS q out ↔ x ∈ out ∨ x ∈ termsI q []) := by
  induction d with
  | zero => intro q h; cases h
  | succ d ih =>
    intro q h out ha
    simp only [okQ, Bool.and_eq_true, List.all_eq_true] at h
    rw [termsS_eq, termsI_eq]
    by_cases k9 : q.kind = 9
    · rw [if_pos k9, if_neg (by omega), if_neg (by omega)]
      exact ⟨ha, by simp⟩
    rw [if_neg k9]
    by_cases k2 : q.kind = 2 ∨ q.kind = 3
    · rw [if_pos k2, if_pos k2, nodeOk_leaf h.1 (by omega), List.foldl_nil]
      have := foldAdd (tnz q.text) out ha
      exact ⟨this.1, by rw [this.2 x]; rfl⟩
    rw [if_neg k2, if_neg k2]
    have hf := foldS_mem (x := x) (d := d) q.parts out ha fun p hp => ih p (h.2 p hp)
    refine ⟨hf.1, ?_⟩
    rw [hf.2]
    by_cases k7 : q.kind = 7 ∨ q.kind = 8
    · rw [if_pos k7, foldI_mem _ _ fun p _ => termsI_mem p]; simp
    · rw [if_neg k7]
      have : q.parts = [] := by
        by_cases hp : q.parts = []
        · exact hp
        · have := nodeOk_parts h.1 hp; omega
      rw [this]; simp
theorem terms_same {d : Nat} {q : Query} (h : okQ d q = true) : uniq (termsI q []) = termsS q [] := by
  refine asc_ext (uniq_asc _) (termsS_mem (x := []) d q h [] List.Pairwise.nil).1 fun x => ?_
  rw [uniq_mem, (termsS_mem (x := x) d q h [] List.Pairwise.nil).2]
  simp
/-! ### Sizes of a question that has a form -/
theorem nameOk_len {s : Str} (h : nameOk s = true) : s.length ≤ 8 := by
  simp only [nameOk, inB, Bool.and_eq_true, decide_eq_true_eq] at h
  omega
theorem wordsOk_len {s : Str} {a b : Int} (h : wordsOk s a b = true) : s.length ≤ 60 := by
  simp only [wordsOk, inB, Bool.and_eq_true, decide_eq_true_eq] at h
  exact h.2
theorem nodeOk_len {q : Query} (h : nodeOk q = true) : q.field.length ≤ 8 ∧ q.text.length ≤ 60 ∧ q.parts.length ≤ 4 := by
  unfold nodeOk at h
  have hf : ∀ f : Str, (decide (f = []) || nameOk f) = true → f.length ≤ 8 := by
    intro f hf
    rcases (Bool.or_eq_true _ _).mp hf with h | h
    · have : f = [] := by simpa using h
      subst this; simp
    · exact nameOk_len h
  split at h
  · rename_i hp
    rw [hp]
    simp only [leafOk] at h
    split at h
    · simp only [Bool.and_eq_true, decide_eq_true_eq] at h
      rw [h.1.1, h.1.2]; simp
    split at h
    · simp only [Bool.and_eq_true] at h
      exact ⟨hf _ h.1.1.1, wordsOk_len h.1.1.2, by simp⟩
    split at h
    · simp only [Bool.and_eq_true] at h
      exact ⟨hf _ h.1.1, wordsOk_len h.1.2, by simp⟩
    split at h
    · simp only [Bool.and_eq_true, decide_eq_true_eq] at h
      exact ⟨hf _ h.1.1.1.1, by omega, by simp⟩
    split at h
    · simp only [Bool.and_eq_true, decide_eq_true_eq] at h
      rw [h.1.1.2]
      exact ⟨nameOk_len h.1.1.1, by simp, by simp⟩
    split at h
    · simp only [Bool.and_eq_true] at h
      have := nameOk_len h.1.2
      exact ⟨nameOk_len h.1.1, by omega, by simp⟩
    · cases h
  · simp only [Bool.and_eq_true, Bool.or_eq_true, decide_eq_true_eq, inB] at h
    rw [h.1.1.1.2, h.1.1.2]
    refine ⟨by simp, by simp, ?_⟩
    omega
theorem totL_le {n : Nat} : ∀ {l : List Query}, (∀ q ∈ l, tot q ≤ n) → totL l ≤ l.length * (n + 1)
  | [], _ => by simp [totL]
  | q :: l, h => by
    have := totL_le fun p hp => h p (List.mem_cons_of_mem _ hp)
    have := h q (by simp)
    rw [totL, List.length_cons, Nat.add_mul]; omega
theorem tot_ok (d : Nat) : ∀ q : Query, okQ d q = true → tot q ≤ 100 * 5 ^ d := by
  induction d with
  | zero => intro q h; cases h
  | succ d ih =>
    intro q h
    simp only [okQ, Bool.and_eq_true, List.all_eq_true] at h
    have h1 := nodeOk_len h.1
    have h2 := totL_le fun p hp => ih p (h.2 p hp)
    have h3 : q.parts.length * (100 * 5 ^ d + 1) ≤ 4 * (100 * 5 ^ d + 1) := Nat.mul_le_mul_right _ h1.2.2
    have h4 : 1 ≤ 5 ^ d := Nat.pow_pos (by omega)
    rw [tot_eq, Nat.pow_succ]
    omega
theorem tot_ok4 {q : Query} (h : okQ 4 q = true) : tot q ≤ 62500 := tot_ok 4 q h
/-! ### What a term is -/
theorem foldB_idem (b : UInt8) : foldB (foldB b) = foldB b := by
  have h := foldB_nat b
  have h2 : inB (foldB b).toNat 65 90 = false := by
    rw [h]
    split
    · rename_i hb; simp [inB] at hb ⊢; omega
    · rename_i hb; simpa using hb
  rw [show foldB (foldB b) = if inB (foldB b).toNat 65 90 then UInt8.ofNat ((foldB b).toNat + 32) else foldB b from rfl, h2]; rfl
theorem foldB_word {b : UInt8} (h : wordB b = true) : wordB (foldB b) = true := by
  have h0 := foldB_nat b
  unfold wordB wordI at *
  rw [h0]
  split
  · rename_i hb; simp [inB] at hb ⊢; omega
  · exact h
theorem cut1_take (s : Str) : ∃ k, k ≤ s.length ∧ cut1 s = s.take k := by
  unfold cut1
  split
  · exact ⟨s.length - 1, by omega, rfl⟩
  · exact ⟨s.length, Nat.le_refl _, by rw [List.take_length]⟩
theorem cut1_idem (s : Str) : cut1 (cut1 s) = cut1 s := by
  by_cases h : s.length > 3 ∧ s.getD (s.length - 1) 0 = 115 ∧ s.getD (s.length - 2) 0 ≠ 115
  · have e : cut1 s = s.take (s.length - 1) := if_pos h
    rw [e]
    refine if_neg ?_
    rintro ⟨h1, h2, h3⟩
    simp only [List.length_take] at h1 h2
    have e : min (s.length - 1) s.length - 1 = s.length - 2 := by omega
    rw [e, List.getD_eq_getElem?_getD, List.getElem?_take_of_lt (by omega), ← List.getD_eq_getElem?_getD] at h2
    exact h.2.2 h2
  · have e : cut1 s = s := if_neg h
    rw [e, e]
theorem stem_take (s : Str) : ∃ k, k ≤ 12 ∧ cut1 ((foldS s).take 12) = (foldS s).take k := by
  obtain ⟨k, hk, h⟩ := cut1_take ((foldS s).take 12)
  refine ⟨k, by simp at hk; omega, ?_⟩
  rw [h, List.take_take]
  congr 1
  simp at hk; omega
theorem foldS_idem (s : Str) : foldS (foldS s) = foldS s := by simp [foldS, foldB_idem]
theorem stem_len (s : Str) : (stem s).length ≤ 12 := by
  unfold stem
  split
  · simp
  · obtain ⟨k, hk, h⟩ := stem_take s
    rw [h]; simp; omega
theorem stem_idem {s : Str} (h : stem s ≠ []) : stem (stem s) = stem s := by
  obtain ⟨k, hk, e⟩ := stem_take s
  unfold stem at h
  split at h
  · exact absurd rfl h
  · rename_i hs
    have e1 : stem s = cut1 ((foldS s).take 12) := by unfold stem; rw [if_neg hs]
    have e2 : foldS (stem s) = stem s := by
      rw [e1, e, foldS, List.map_take]
      show (foldS (foldS s)).take k = _
      rw [foldS_idem]
    have e3 : (stem s).take 12 = stem s := List.take_of_length_le (stem_len s)
    rw [show stem (stem s) = if stops.contains (cut1 ((foldS (stem s)).take 12)) then [] else cut1 ((foldS (stem s)).take 12) from rfl, e2, e3, e1, cut1_idem, if_neg hs]
theorem stem_word {s : Str} (hs : s.all wordB = true) (h : stem s ≠ []) : isWord (stem s) = true := by
  obtain ⟨k, hk, e⟩ := stem_take s
  have h2 : (stem s).all wordB = true := by
    unfold stem
    split
    · rfl
    · rw [e, List.all_eq_true]
      intro x hx
      have := List.mem_of_mem_take hx
      obtain ⟨b, hb, rfl⟩ := List.mem_map.1 this
      exact foldB_word ((List.all_eq_true.1 hs) b hb)
  simp [isWord, h2, h]
/-- A term: a word that is looked for as itself. -/
def Trm (t : Str) : Prop := isWord t = true ∧ stem t = t ∧ t ≠ [] ∧ t.length ≤ 12
theorem tnz_trm {s t : Str} (h : t ∈ tnz s) : Trm t := by
  simp only [tnz, terms, List.mem_filter, List.mem_map, decide_eq_true_eq] at h
  obtain ⟨⟨w, hw, rfl⟩, hne⟩ := h
  have hww := words_are s 0 w hw
  have hall : w.text.all wordB = true := by simp [isWord] at hww; simpa using hww.1
  exact ⟨stem_word hall hne, stem_idem hne, hne, stem_len _⟩
theorem foldI_trm : ∀ (l : List Query) (out : List Str), (∀ t ∈ out, Trm t) → (∀ q ∈ l, ∀ out : List Str, (∀ t ∈ out, Trm t) → ∀ t ∈ termsS q out, Trm t) → ∀ t ∈ l.foldl (fun out q => termsS q out) out, Trm t
  | [], out, h, _ => h
  | q :: l, out, h, ih => by
    rw [List.foldl_cons]
    exact foldI_trm l _ (ih q (by simp) out h) fun p hp => ih p (List.mem_cons_of_mem _ hp)
theorem termsS_trm (q : Query) : ∀ out : List Str, (∀ t ∈ out, Trm t) → ∀ t ∈ termsS q out, Trm t := by
  refine Query.ind (P := fun q => ∀ out : List Str, (∀ t ∈ out, Trm t) → ∀ t ∈ termsS q out, Trm t) (fun q ih out h => ?_) q
  rw [termsS_eq]
  split
  · exact h
  · refine foldI_trm _ _ ?_ ih
    split
    · intro t ht
      have hm : ∀ (m l : List Str) (t : Str), t ∈ m.foldl addS l → t ∈ l ∨ t ∈ m := by
        intro m
        induction m with
        | nil => intro l t h; exact .inl h
        | cons x m ihm =>
          intro l t h
          rw [List.foldl_cons] at h
          rcases ihm _ t h with h | h
          · rcases addS_mem.1 h with rfl | h
            · exact .inr (by simp)
            · exact .inl h
          · exact .inr (List.mem_cons_of_mem _ h)
      rcases hm _ _ t ht with h2 | h2
      · exact h t h2
      · exact tnz_trm h2
    · exact h
/-- The answer of QueryTerms: ascending terms. -/
def qTerms (q : Query) : List Str := if okQ 4 q = true then termsS q [] else []
theorem qTerms_asc (q : Query) : Asc (qTerms q) := by
  unfold qTerms
  split
  · rename_i h
    exact (termsS_mem (x := []) 4 q h [] List.Pairwise.nil).1
  · exact List.Pairwise.nil
theorem qTerms_trm (q : Query) : ∀ t ∈ qTerms q, Trm t := by
  unfold qTerms
  split
  · exact termsS_trm q [] (by simp)
  · simp
theorem qTerms_len (q : Query) : (qTerms q).length ≤ 62500 := by
  unfold qTerms
  split
  · rename_i h
    have := termsS_len q []
    have := tot_ok4 h
    simp at *; omega
  · simp
theorem qTerms_not (q : Query) : qTerms (notQ q) = [] := by
  unfold qTerms
  split
  · rw [termsS_eq]; exact if_pos rfl
  · rfl
end Go.Proofs.YtjagjfjhinlgiaaGreatDoor.PVE
