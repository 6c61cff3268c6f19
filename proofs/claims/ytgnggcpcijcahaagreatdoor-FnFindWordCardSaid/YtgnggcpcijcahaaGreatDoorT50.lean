/- Sets of numbers: both, either, the one without the other. -/
import Derived.Test.YtgnggcpcijcahaaGreatDoorTI
set_option linter.unusedVariables false
set_option linter.unusedSimpArgs false
set_option maxRecDepth 100000
namespace Go.Proofs.YtgnggcpcijcahaaGreatDoor.PVE
open PV Query
@[go_sem] theorem sortI_R (l : List Int) (hl : l.length ≤ 1099511627776) : R S0 85 [.slo 1 (l.map (.int .i64))] = some ⟨[some (.slo 1 ((l.mergeSort leInt).map (.int .i64)))], .tup []⟩ := by
  refine R_lib (Eq.trans (b := libSortI [.slo 1 (l.map (.int .i64))]) (by kernel_rfl) ?_)
  rw [libSortI, insOf_map, insAll_map, if_pos ⟨rfl, by simpa using hl⟩]
@[go_sem] theorem compactI_R (l : List Int) (hl : l.length ≤ 1099511627776) : R S0 86 [.slo 1 (l.map (.int .i64))] = some ⟨[none], .slo 1 ((Lib.compact l).map (.int .i64))⟩ := by
  refine R_lib (Eq.trans (b := libCompactI [.slo 1 (l.map (.int .i64))]) (by kernel_rfl) ?_)
  rw [libCompactI, insOf_map, insAll_map, if_pos ⟨rfl, by simpa using hl⟩]
@[go_sem] theorem setsOk_R (a b : List Int) (ha : a.length ≤ 1099511627776) (hb : b.length ≤ 1099511627776) : R S0 84 [.sl (a.map (.int .i64)), .sl (b.map (.int .i64))] = some ⟨[none, none], .bool (setOkS a && setOkS b)⟩ := by
  cases h : setOkS a with
  | false => refine go84 rfl ?_; simp only [go_sem, ↓reduceIte, Nat.reduceAdd, Nat.reduceSub, Nat.reduceEqDiff, Nat.reduceLT, Nat.reduceLeDiff, Nat.reduceMul, Int.reduceNeg, Int.reduceToNat, Int.reduceEq, Int.reduceLT, Int.reduceLE, reduceCtorEq, Tryz.f84, ha, hb, h]
  | true => refine go84 rfl ?_; simp only [go_sem, ↓reduceIte, Nat.reduceAdd, Nat.reduceSub, Nat.reduceEqDiff, Nat.reduceLT, Nat.reduceLeDiff, Nat.reduceMul, Int.reduceNeg, Int.reduceToNat, Int.reduceEq, Int.reduceLT, Int.reduceLE, reduceCtorEq, Tryz.f84, ha, hb, h]
def uniqI (l : List Int) : List Int := Lib.compact (l.mergeSort leInt)
theorem uniqI_len (l : List Int) : (uniqI l).length ≤ l.length := by
  have := compactI_len (l.mergeSort leInt)
  rw [List.length_mergeSort] at this
  exact this
theorem setOr_R (a b : List Int) (ha : setOkS a = true) (hb : setOkS b = true) (hal : a.length ≤ 1000) (hbl : b.length ≤ 1000) : R S0 34 [.sl (a.map (.int .i64)), .sl (b.map (.int .i64))] = some ⟨[none, none], .slo 1 ((uniqI (a ++ b)).map (.int .i64))⟩ := by
  have h1 : a.length ≤ 1099511627776 := by omega
  have h2 : b.length ≤ 1099511627776 := by omega
  have h3 : (a ++ b).length ≤ 1099511627776 := by rw [List.length_append]; omega
  have h4 : ((a ++ b).mergeSort leInt).length ≤ 1099511627776 := by rw [List.length_mergeSort]; exact h3
  have h5 : (Lib.compact ((a ++ b).mergeSort leInt)).length ≤ 1099511627776 := by
    have := uniqI_len (a ++ b); rw [uniqI] at this; omega
  rw [uniqI]
  have q1 := sortI_R (a ++ b) h3
  have q2 := compactI_R _ h4
  refine go34 rfl ?_; simp only [go_sem, ↓reduceIte, Nat.reduceAdd, Nat.reduceSub, Nat.reduceEqDiff, Nat.reduceLT, Nat.reduceLeDiff, Nat.reduceMul, Int.reduceNeg, Int.reduceToNat, Int.reduceEq, Int.reduceLT, Int.reduceLE, reduceCtorEq, Tryz.f34, ha, hb, h1, h2, q1, q2, h5]
  exact ⟨by omega, by omega, by omega⟩
theorem compactI_mem {x : Int} (l : List Int) : x ∈ Lib.compact l ↔ x ∈ l := by
  unfold Lib.compact Lib.compactUpTo
  simp only [List.mem_map, List.mem_filter, List.mem_range]
  constructor
  · rintro ⟨j, ⟨hj, _⟩, rfl⟩
    rw [getElem!_pos (l.toArray) j (by simpa using hj)]
    simp
  · intro hx
    obtain ⟨i, hi, rfl⟩ := List.getElem_of_mem hx
    have key : ∀ i (hi : i < l.length), ∃ j, (j < l.length ∧ Lib.keeps l.toArray j = true) ∧ l.toArray[j]! = l[i] := by
      intro i
      induction i with
      | zero => intro hi; exact ⟨0, ⟨hi, by simp [Lib.keeps]⟩, by rw [getElem!_pos (l.toArray) 0 (by simpa using hi)]; simp⟩
      | succ i ih =>
        intro hi
        have e1 : l.toArray[i + 1]! = l[i + 1] := by rw [getElem!_pos (l.toArray) (i + 1) (by simpa using hi)]; simp
        have e0 : l.toArray[i]! = l[i] := by rw [getElem!_pos (l.toArray) i (by simp; omega)]; simp
        by_cases hk : Lib.keeps l.toArray (i + 1) = true
        · exact ⟨i + 1, ⟨hi, hk⟩, e1⟩
        · obtain ⟨j, hj, hj2⟩ := ih (by omega)
          refine ⟨j, hj, ?_⟩
          simp only [Lib.keeps, decide_eq_true_eq, not_or, Nat.add_sub_cancel, ne_eq, Decidable.not_not] at hk
          rw [hj2, ← e1, hk.2, e0]
    obtain ⟨j, h1, h2⟩ := key i hi
    exact ⟨j, h1, h2⟩
theorem compactI_asc (l : List Int) (h : l.Pairwise (· ≤ ·)) : (Lib.compact l).Pairwise (fun a b => a < b) := by
  unfold Lib.compact Lib.compactUpTo
  rw [List.pairwise_map, List.pairwise_filter]
  have h2 : (List.range l.length).Pairwise (fun a b => a < b ∧ b < l.length) := by
    refine List.Pairwise.imp_of_mem (R := (· < ·)) ?_ List.pairwise_lt_range
    intro a b ha hb hab
    exact ⟨hab, by simpa using hb⟩
  refine h2.imp ?_
  rintro a b ⟨hab, hb⟩ _ hk
  simp only [Lib.keeps, decide_eq_true_eq] at hk
  have hk := hk.resolve_left (by omega)
  rw [getElem!_pos (l.toArray) b (by simpa using hb), getElem!_pos (l.toArray) (b - 1) (by simp; omega)] at hk
  rw [getElem!_pos (l.toArray) b (by simpa using hb), getElem!_pos (l.toArray) a (by simp; omega)]
  simp only [List.getElem_toArray] at hk ⊢
  rw [List.pairwise_iff_getElem] at h
  have h1 : l[b - 1] ≤ l[b] := h (b - 1) b (by omega) hb (by omega)
  have h3 : l[a] ≤ l[b - 1] := by
    by_cases e : a = b - 1
    · subst e; exact Int.le_refl _
    · exact h a (b - 1) (by omega) (by omega) (by omega)
  have h4 : l[b - 1] ≠ l[b] := fun e => hk e.symm
  omega
theorem uniqI_asc (l : List Int) : (uniqI l).Pairwise (fun a b => a < b) := by
  refine compactI_asc _ ?_
  have := List.pairwise_mergeSort (le := leInt) (fun a b c h1 h2 => by simp only [leInt, decide_eq_true_eq] at *; omega) (fun a b => by simp only [leInt, Bool.or_eq_true, decide_eq_true_eq]; omega) l
  exact this.imp fun h => by simpa [leInt] using h
theorem uniqI_mem {x : Int} (l : List Int) : x ∈ uniqI l ↔ x ∈ l := by
  rw [uniqI, compactI_mem, List.mem_mergeSort]
theorem ascI_ext : ∀ {l m : List Int}, l.Pairwise (fun a b => a < b) → m.Pairwise (fun a b => a < b) → (∀ x, x ∈ l ↔ x ∈ m) → l = m
  | [], [], _, _, _ => rfl
  | [], b :: m, _, _, h => by have := (h b).2 (by simp); simp at this
  | a :: l, [], _, _, h => by have := (h a).1 (by simp); simp at this
  | a :: l, b :: m, hl, hm, h => by
    rw [List.pairwise_cons] at hl hm
    have h1 := (h a).1 (by simp)
    have h2 := (h b).2 (by simp)
    have e : a = b := by
      rcases List.mem_cons.1 h1 with h1 | h1
      · exact h1
      · rcases List.mem_cons.1 h2 with h2 | h2
        · exact h2.symm
        · have := hm.1 a h1; have := hl.1 b h2; omega
    subst e
    congr 1
    refine ascI_ext hl.2 hm.2 fun x => ?_
    have hx := h x
    simp only [List.mem_cons] at hx
    constructor
    · intro hxl
      rcases hx.1 (.inr hxl) with rfl | hxm
      · have := hl.1 _ hxl; omega
      · exact hxm
    · intro hxm
      rcases hx.2 (.inr hxm) with rfl | hxl
      · have := hm.1 _ hxm; omega
      · exact hxl
def idsP (rows : List DRow) (p : DRow → Bool) : List Int := (rows.filter p).map (·.id)
theorem idsP_congr {rows : List DRow} {p q : DRow → Bool} (h : ∀ r ∈ rows, p r = q r) : idsP rows p = idsP rows q := by
  rw [idsP, idsP, List.filter_congr h]
theorem idsP_asc {rows : List DRow} (h : rows.Pairwise (fun a b => a.id < b.id)) (p : DRow → Bool) : (idsP rows p).Pairwise (fun a b => a < b) := List.pairwise_map.2 (h.sublist List.filter_sublist)
theorem idsP_mem {rows : List DRow} {p : DRow → Bool} {n : Int} : n ∈ idsP rows p ↔ ∃ r ∈ rows, p r = true ∧ r.id = n := by
  rw [idsP, List.mem_map]
  constructor
  · rintro ⟨r, h1, h2⟩
    exact ⟨r, (List.mem_filter.1 h1).1, (List.mem_filter.1 h1).2, h2⟩
  · rintro ⟨r, h1, h2, h3⟩
    exact ⟨r, List.mem_filter.2 ⟨h1, h2⟩, h3⟩
theorem idsP_or {rows : List DRow} (h : rows.Pairwise (fun a b => a.id < b.id)) (p q : DRow → Bool) : uniqI (idsP rows p ++ idsP rows q) = idsP rows fun r => p r || q r := by
  refine ascI_ext (uniqI_asc _) (idsP_asc h _) fun x => ?_
  rw [uniqI_mem, List.mem_append, idsP_mem, idsP_mem, idsP_mem]
  constructor
  · rintro (⟨r, h1, h2, h3⟩ | ⟨r, h1, h2, h3⟩)
    · exact ⟨r, h1, by rw [h2]; rfl, h3⟩
    · exact ⟨r, h1, by rw [h2, Bool.or_true], h3⟩
  · rintro ⟨r, h1, h2, h3⟩
    rcases Bool.or_eq_true_iff.1 h2 with h2 | h2
    · exact .inl ⟨r, h1, h2, h3⟩
    · exact .inr ⟨r, h1, h2, h3⟩
theorem idsP_ok {fl : List Field} {rows : List DRow} {ents : List Entry} {nx : Int} (h : indexOkS fl rows ents nx = true) (p : DRow → Bool) : setOkS (idsP rows p) = true := by
  obtain ⟨h1, _, h3, h4, _⟩ := indexOk_parts h
  obtain ⟨a1, _, a3⟩ := rowsOk_iff.1 h1
  have e1 : ∀ n ∈ idsP rows p, inB n 0 999999999 = true := by
    intro n hn
    obtain ⟨r, hr, _, rfl⟩ := idsP_mem.1 hn
    have := (a1 r hr).2
    simp only [inB, Bool.and_eq_true, decide_eq_true_eq] at this h4 ⊢
    omega
  have e3 : (idsP rows p).length ≤ 16 := by
    have := List.length_filter_le p rows
    rw [idsP, List.length_map]; omega
  rw [setOkS, decide_eq_true e1, decide_eq_true (idsP_asc a3 p), decide_eq_true e3]; rfl
theorem idsP_len {fl : List Field} {rows : List DRow} {ents : List Entry} {nx : Int} (h : indexOkS fl rows ents nx = true) (p : DRow → Bool) : (idsP rows p).length ≤ 8 := by
  have := (indexOk_parts h).2.2.1
  have := List.length_filter_le p rows
  rw [idsP, List.length_map]; omega
theorem findA_ids {fl : List Field} {rows : List DRow} {ents : List Entry} {nx : Int} {q : Query} (h : askOk fl rows ents nx q = true) : findA fl rows ents nx q = idsP rows fun r => meetsM fl r.doc q := by rw [findA, if_pos h]; rfl
end Go.Proofs.YtgnggcpcijcahaaGreatDoor.PVE
