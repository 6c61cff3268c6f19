/- Documents: the laws of numbers and tags. -/
import Derived.Test.YtanbccpabgcmaaaGreatDoorT16
set_option linter.unusedVariables false
set_option linter.unusedSimpArgs false
set_option maxRecDepth 100000
namespace Go.Proofs.YtanbccpabgcmaaaGreatDoor.PVE
open PV
theorem numDoc_has {l : List Field} {d : Doc} {n : Str} (h : (numDoc l d n).2 = true) : docOk l d = true ∧ (docText d n).2 = true ∧ (fieldOf l n).kind = 2 ∧ (numDoc l d n).1 ≤ 999999999 ∧ -999999999 ≤ (numDoc l d n).1 ∧ tagDoc l d n = [] := by
  have hc : docOk l d = true ∧ (docText d n).2 = true ∧ (fieldOf l n).kind = 2 := by
    apply Classical.byContradiction
    intro hc
    rw [numDoc_no hc] at h
    cases h
  obtain ⟨h1, h2, h3⟩ := hc
  have hk := doc_cell h1 h2
  simp only [cellOk, h3] at hk
  rw [num_same] at hk
  have hn : (numS (docText d n).1).2 = true := by
    cases hn : (numS (docText d n).1).2 with
    | true => rfl
    | false => rw [hn] at hk; simp at hk
  obtain ⟨_, k1, k2, _⟩ := num_of hn
  refine ⟨h1, h2, h3, ?_, ?_, tagDoc_no (by rw [h3]; simp)⟩
  · rw [numDoc_yes h1 h2 h3]; exact k2
  · rw [numDoc_yes h1 h2 h3]; exact k1
theorem numDoc_hasNo {l : List Field} {d : Doc} {n : Str} (h : (numDoc l d n).2 = false) : (numDoc l d n).1 = 0 := by
  by_cases hc : docOk l d = true ∧ (docText d n).2 = true ∧ (fieldOf l n).kind = 2
  · rw [numDoc_yes hc.1 hc.2.1 hc.2.2] at h; cases h
  · rw [numDoc_no hc]
@[go_sem] theorem FnDocNum_R (b : Str) (hb : b.length ≤ 9223372036854775807) : R S0 3 [.sl (b.map bytePV)] = some ⟨[none], .bool true⟩ := by
  by_cases h : 1048576 < (b.length : Int)
  · refine go3 rfl ?_; simp only [go_sem, ↓reduceIte, Nat.reduceAdd, Nat.reduceSub, Nat.reduceEqDiff, Nat.reduceLT, Nat.reduceLeDiff, Nat.reduceMul, Int.reduceNeg, Int.reduceToNat, Int.reduceEq, Int.reduceLT, Int.reduceLE, reduceCtorEq, Tryz.f3, h]
  obtain ⟨r, hr, l, d, n, rfl, hl, hdt, hn⟩ := drawDocNum_ex b
  have hd := hdt.sm (by omega)
  cases hc : (numDoc l d n).2 with
  | false =>
    have h0 := numDoc_hasNo hc
    refine go3 rfl ?_; simp only [go_sem, ↓reduceIte, Nat.reduceAdd, Nat.reduceSub, Nat.reduceEqDiff, Nat.reduceLT, Nat.reduceLeDiff, Nat.reduceMul, Int.reduceNeg, Int.reduceToNat, Int.reduceEq, Int.reduceLT, Int.reduceLE, reduceCtorEq, Tryz.f3, h, hr, hl, hd, hc, h0]
  | true =>
    obtain ⟨h1, h2, h3, h4, h5, h6⟩ := numDoc_has hc
    refine go3 rfl ?_; simp only [go_sem, ↓reduceIte, Nat.reduceAdd, Nat.reduceSub, Nat.reduceEqDiff, Nat.reduceLT, Nat.reduceLeDiff, Nat.reduceMul, Int.reduceNeg, Int.reduceToNat, Int.reduceEq, Int.reduceLT, Int.reduceLE, reduceCtorEq, Tryz.f3, h, hr, hl, hd, hc, h1, h2, h4, h5, h6]
theorem tagDoc_has {l : List Field} {d : Doc} {n : Str} (h : tagDoc l d n ≠ []) : docOk l d = true ∧ (numDoc l d n).2 = false := by
  have hc : docOk l d = true ∧ (docText d n).2 = true ∧ (fieldOf l n).kind = 3 := by
    apply Classical.byContradiction
    intro hc
    exact h (tagDoc_no hc)
  exact ⟨hc.1, by rw [numDoc_no (by rw [hc.2.2]; simp)]⟩
theorem tagDoc_all (l : List Field) (d : Doc) (n : Str) : Asc (tagDoc l d n) ∧ (∀ t ∈ tagDoc l d n, nameOk t = true) ∧ (tagDoc l d n).length ≤ 4 := by
  by_cases hc : docOk l d = true ∧ (docText d n).2 = true ∧ (fieldOf l n).kind = 3
  · obtain ⟨h1, h2, h3⟩ := hc
    have hk := doc_cell h1 h2
    simp only [cellOk, h3] at hk
    have hk : tagsOk (docText d n).1 = true := by simpa using hk
    simp only [tagsOk, Bool.and_eq_true, decide_eq_true_eq] at hk
    rw [tagDoc_yes h1 h2 h3, tagsS, if_pos hk.1]
    have hf := foldAdd (splitB 44 (docText d n).1) [] List.Pairwise.nil
    refine ⟨hf.1, fun t ht => ?_, ?_⟩
    · have := (hf.2 t).1 ht
      exact List.all_eq_true.1 hk.1 t (by simpa using this)
    · have := foldS_len (splitB 44 (docText d n).1) []
      simp only [List.length_nil] at this
      show ((splitB 44 (docText d n).1).foldl addS []).length ≤ 4
      omega
  · rw [tagDoc_no hc]
    exact ⟨List.Pairwise.nil, by simp, by simp⟩
@[go_sem] theorem FnDocTags_R (b : Str) (hb : b.length ≤ 9223372036854775807) : R S0 4 [.sl (b.map bytePV)] = some ⟨[none], .bool true⟩ := by
  by_cases h : 1048576 < (b.length : Int)
  · refine go4 rfl ?_; simp only [go_sem, ↓reduceIte, Nat.reduceAdd, Nat.reduceSub, Nat.reduceEqDiff, Nat.reduceLT, Nat.reduceLeDiff, Nat.reduceMul, Int.reduceNeg, Int.reduceToNat, Int.reduceEq, Int.reduceLT, Int.reduceLE, reduceCtorEq, Tryz.f4, h]
  obtain ⟨r, hr, l, d, n, rfl, hl, hdt, hn⟩ := drawDocTags_ex b
  have hd := hdt.sm (by omega)
  obtain ⟨ha, hnm, hlen⟩ := tagDoc_all l d n
  have hlb : (tagDoc l d n).length ≤ 1099511627776 := by omega
  refine go4 rfl ?_; simp only [go_sem, ↓reduceIte, Nat.reduceAdd, Nat.reduceSub, Nat.reduceEqDiff, Nat.reduceLT, Nat.reduceLeDiff, Nat.reduceMul, Int.reduceNeg, Int.reduceToNat, Int.reduceEq, Int.reduceLT, Int.reduceLE, reduceCtorEq, Tryz.f4, h, hr, hl, hd, hlb]
  refine ends_for (tagDoc l d n).length (by omega) (fun i _ => mkSt [(3, .sl (l.map Field.pv)), (4, .addr 0 0 0), (5, .str n), (6, .own 1), (7, .int .i64 i)] [.pto [.str d.key, .slo 2 (d.cells.map Cell.pv)], .slo 1 ((tagDoc l d n).map .str)]) (fun i _ => True) 0 () (by omega) trivial ?_ ?_
  · rintro i _ hi - hw ih
    obtain ⟨c, hx, hg, hdr⟩ := drop_get hi default
    have hcn := hnm c (List.mem_of_getElem? hx)
    have hcl8 := nameOk_len hcn
    have hcl : c.length ≤ 1099511627776 := by omega
    cases i with
    | zero =>
      rw [show ((0 : Nat) : Int) = 0 from rfl] at *
      have hi0 : (0 : Int) < ((tagDoc l d n).length : Int) := by omega
      simp only [go_sem, ↓reduceIte, Nat.reduceAdd, Nat.reduceSub, Nat.reduceEqDiff, Nat.reduceLT, Nat.reduceLeDiff, Nat.reduceMul, Int.reduceNeg, Int.reduceToNat, Int.reduceEq, Int.reduceLT, Int.reduceLE, reduceCtorEq, hi, hi0, hw, hx, hg, hcn, hcl]
      exact ih () trivial
    | succ j =>
      have hz : (0 : Int) < ((j + 1 : Nat) : Int) := by omega
      have hw1 : IntKind.i64.wrap (((j + 1 : Nat) : Int) - 1) = (j : Int) := by rw [wrap_in (by omega) (by omega)]; omega
      have hj : j < (tagDoc l d n).length := by omega
      obtain ⟨y, hy, hgy, _⟩ := drop_get hj default
      have hlt : Go.Op.bytesLess y c = true := by
        rw [bl_iff]
        rw [List.getElem?_eq_getElem hj] at hy
        rw [List.getElem?_eq_getElem hi] at hx
        rw [← Option.some.inj hy, ← Option.some.inj hx]
        exact List.pairwise_iff_getElem.1 ha j (j + 1) hj hi (by omega)
      simp only [go_sem, ↓reduceIte, Nat.reduceAdd, Nat.reduceSub, Nat.reduceEqDiff, Nat.reduceLT, Nat.reduceLeDiff, Nat.reduceMul, Int.reduceNeg, Int.reduceToNat, Int.reduceEq, Int.reduceLT, Int.reduceLE, reduceCtorEq, hi, hw, hx, hg, hcn, hcl, hz, hw1, hj, hy, hgy, hlt]
      exact ih () trivial
  · rintro _ -
    have h4 : ((tagDoc l d n).length : Int) ≤ 4 := by omega
    by_cases he : tagDoc l d n = []
    · simp only [go_sem, ↓reduceIte, Nat.reduceAdd, Nat.reduceSub, Nat.reduceEqDiff, Nat.reduceLT, Nat.reduceLeDiff, Nat.reduceMul, Int.reduceNeg, Int.reduceToNat, Int.reduceEq, Int.reduceLT, Int.reduceLE, reduceCtorEq, hl, hd, h4, he]
    · obtain ⟨h1, h2⟩ := tagDoc_has he
      have h0 : ¬ ((tagDoc l d n).length : Int) = 0 := by
        intro e
        exact he (List.length_eq_zero_iff.1 (by omega))
      simp only [go_sem, ↓reduceIte, Nat.reduceAdd, Nat.reduceSub, Nat.reduceEqDiff, Nat.reduceLT, Nat.reduceLeDiff, Nat.reduceMul, Int.reduceNeg, Int.reduceToNat, Int.reduceEq, Int.reduceLT, Int.reduceLE, reduceCtorEq, hl, hd, h4, h0, h1, h2]
end Go.Proofs.YtanbccpabgcmaaaGreatDoor.PVE
