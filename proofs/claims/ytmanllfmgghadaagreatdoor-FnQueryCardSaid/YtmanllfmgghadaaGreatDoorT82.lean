/- The program's reader of questions: its words. -/
import Derived.Test.YtmanllfmgghadaaGreatDoorT81
set_option linter.unusedVariables false
set_option linter.unusedSimpArgs false
set_option maxRecDepth 100000
namespace Go.Proofs.YtmanllfmgghadaaGreatDoor.PVE
open PV Query
theorem index_no {c : UInt8} : ∀ {t : Str}, c ∉ t → Lib.indexByte t c = -1
  | [], _ => rfl
  | b :: t, h => by
    have hb : (b == c) = false := by
      have : b ≠ c := by rintro rfl; exact h (by simp)
      simpa using this
    have ih := index_no (t := t) fun hm => h (List.mem_cons_of_mem _ hm)
    simp [Lib.indexByte, hb, ih]
theorem run_get : ∀ {t : Str} {i : Nat}, i < run t → i < t.length ∧ wordB (t.getD i 0) = true
  | [], i, h => by simp [run] at h
  | b :: t, i, h => by
    rw [run] at h
    by_cases hb : wordB b = true
    · rw [if_pos hb] at h
      cases i with
      | zero => exact ⟨by simp, by simpa using hb⟩
      | succ i =>
        obtain ⟨h1, h2⟩ := run_get (t := t) (i := i) (by omega)
        exact ⟨by simpa using h1, by simpa using h2⟩
    · rw [if_neg hb] at h; omega
theorem run_end : ∀ {t : Str}, run t < t.length → wordB (t.getD (run t) 0) = false
  | [], h => by simp at h
  | b :: t, h => by
    rw [run] at h ⊢
    by_cases hb : wordB b = true
    · rw [if_pos hb] at h ⊢
      have := run_end (t := t) (by simpa using h)
      simpa using this
    · rw [if_neg hb]
      simpa using hb
theorem drop_at (s : Str) (a i : Nat) : (s.drop a).getD i 0 = s.getD (a + i) 0 := by
  rw [List.getD_eq_getElem?_getD, List.getD_eq_getElem?_getD, List.getElem?_drop]
@[go_sem] theorem skip_R (s p : Str) (a : Nat) (ha : a ≤ s.length) (hs : s.length ≤ 1000) : R S0 159 [.pto [.str s, .int .i64 a], .str p] = some ⟨[some (.pto [.str s, .int .i64 (if begM p (s.drop a) = true then a + p.length else a : Nat)]), none], .bool (begM p (s.drop a))⟩ := by
  have hc : cut s (a : Int) s.length = s.drop a := cut_drop s a
  cases h : begM p (s.drop a) with
  | true =>
    have hl := begM_len h
    rw [List.length_drop] at hl
    have hw : IntKind.i64.wrap ((a : Int) + (p.length : Int)) = ((a + p.length : Nat) : Int) := by rw [wrap_in (by omega) (by omega)]; omega
    refine go159 rfl ?_; simp only [go_sem, ↓reduceIte, Nat.reduceAdd, Nat.reduceSub, Nat.reduceEqDiff, Nat.reduceLT, Nat.reduceLeDiff, Nat.reduceMul, Int.reduceNeg, Int.reduceToNat, Int.reduceEq, Int.reduceLT, Int.reduceLE, reduceCtorEq, Tryz.f159, hc, h, hw, ha]
  | false =>
    refine go159 rfl ?_; simp only [go_sem, ↓reduceIte, Nat.reduceAdd, Nat.reduceSub, Nat.reduceEqDiff, Nat.reduceLT, Nat.reduceLeDiff, Nat.reduceMul, Int.reduceNeg, Int.reduceToNat, Int.reduceEq, Int.reduceLT, Int.reduceLE, reduceCtorEq, Tryz.f159, hc, h, ha]
@[go_sem] theorem scut_R (s : Str) (c : UInt8) (hs : s.length ≤ 1000) : R S0 246 [.str s, .str [c]] = some ⟨[none, none], .tup [.str (upC s c).1, .str (s.drop (upC s c).2), .bool (decide (c ∈ s))]⟩ := by
  by_cases h : c ∈ s
  · obtain ⟨m, h1, h2⟩ := index_le h
    have e : upC s c = (s.take m, m + 1) := by rw [upC, if_pos h, h1, Int.toNat_natCast]
    have h3 : (0 : Int) ≤ (m : Int) := by omega
    have c1 : cut s 0 (m : Int) = s.take m := cut_take s m
    have c2 : cut s ((m + 1 : Nat) : Int) s.length = s.drop (m + 1) := cut_drop s (m + 1)
    have hw : IntKind.i64.wrap ((m : Int) + 1) = ((m + 1 : Nat) : Int) := by rw [wrap_in (by omega) (by omega)]; omega
    rw [e, decide_eq_true h]
    refine go246 rfl ?_; simp only [go_sem, ↓reduceIte, Nat.reduceAdd, Nat.reduceSub, Nat.reduceEqDiff, Nat.reduceLT, Nat.reduceLeDiff, Nat.reduceMul, Int.reduceNeg, Int.reduceToNat, Int.reduceEq, Int.reduceLT, Int.reduceLE, reduceCtorEq, Tryz.f246, h1, h3, c1, c2, hw]
    omega
  · have h1 := index_no h
    have e : upC s c = (s, s.length) := by rw [upC, if_neg h]
    rw [e, decide_eq_false h]
    refine go246 rfl ?_; simp only [go_sem, ↓reduceIte, Nat.reduceAdd, Nat.reduceSub, Nat.reduceEqDiff, Nat.reduceLT, Nat.reduceLeDiff, Nat.reduceMul, Int.reduceNeg, Int.reduceToNat, Int.reduceEq, Int.reduceLT, Int.reduceLE, reduceCtorEq, Tryz.f246, h1]
    simp
@[go_sem] theorem cut_R (s : Str) (c : UInt8) (hs : s.length ≤ 1000) : R S0 208 [.str s, .str [c]] = some ⟨[none, none], .tup [.str (upC s c).1, .str (s.drop (upC s c).2), .bool (decide (c ∈ s))]⟩ := by
  refine go208 rfl ?_; simp only [go_sem, ↓reduceIte, Nat.reduceAdd, Nat.reduceSub, Nat.reduceEqDiff, Nat.reduceLT, Nat.reduceLeDiff, Nat.reduceMul, Int.reduceNeg, Int.reduceToNat, Int.reduceEq, Int.reduceLT, Int.reduceLE, reduceCtorEq, Tryz.f208, hs]
@[go_sem] theorem upTo_R (s : Str) (c : UInt8) (a : Nat) (ha : a ≤ s.length) (hs : s.length ≤ 1000) : R S0 161 [.pto [.str s, .int .i64 a], .str [c]] = some ⟨[some (.pto [.str s, .int .i64 (a + (upC (s.drop a) c).2 : Nat)]), none], .str (upC (s.drop a) c).1⟩ := by
  have hc : cut s (a : Int) s.length = s.drop a := cut_drop s a
  have hdl : (s.drop a).length ≤ 1000 := by rw [List.length_drop]; omega
  have hC := cut_R (s.drop a) c hdl
  obtain ⟨u1, u2⟩ := upC_le (s.drop a) c
  rw [List.length_drop] at u1 u2
  have w1 : IntKind.i64.wrap ((a : Int) + ((upC (s.drop a) c).1.length : Int)) = ((a + (upC (s.drop a) c).1.length : Nat) : Int) := by rw [wrap_in (by omega) (by omega)]; omega
  by_cases h : c ∈ s.drop a
  · obtain ⟨m, h1, h2⟩ := index_le h
    have e : upC (s.drop a) c = ((s.drop a).take m, m + 1) := by rw [upC, if_pos h, h1, Int.toNat_natCast]
    have hl : ((s.drop a).take m).length = m := by rw [List.length_take]; omega
    rw [decide_eq_true h] at hC
    rw [e] at hC w1 ⊢
    simp only [hl] at w1
    have w2 : IntKind.i64.wrap (((a + m : Nat) : Int) + 1) = ((a + (m + 1) : Nat) : Int) := by rw [List.length_drop] at h2; rw [wrap_in (by omega) (by omega)]; omega
    refine go161 rfl ?_; simp only [go_sem, ↓reduceIte, Nat.reduceAdd, Nat.reduceSub, Nat.reduceEqDiff, Nat.reduceLT, Nat.reduceLeDiff, Nat.reduceMul, Int.reduceNeg, Int.reduceToNat, Int.reduceEq, Int.reduceLT, Int.reduceLE, reduceCtorEq, Tryz.f161, hc, hC, hl, w1, w2, ha]
  · have e : upC (s.drop a) c = (s.drop a, (s.drop a).length) := by rw [upC, if_neg h]
    rw [decide_eq_false h] at hC
    rw [e] at hC w1 ⊢
    refine go161 rfl ?_; simp only [go_sem, ↓reduceIte, Nat.reduceAdd, Nat.reduceSub, Nat.reduceEqDiff, Nat.reduceLT, Nat.reduceLeDiff, Nat.reduceMul, Int.reduceNeg, Int.reduceToNat, Int.reduceEq, Int.reduceLT, Int.reduceLE, reduceCtorEq, Tryz.f161, hc, hC, w1, ha]
@[go_sem] theorem pword_R (s : Str) (a : Nat) (ha : a ≤ s.length) (hs : s.length ≤ 1000) : R S0 163 [.pto [.str s, .int .i64 a]] = some ⟨[some (.pto [.str s, .int .i64 (a + run (s.drop a) : Nat)])], .str ((s.drop a).take (run (s.drop a)))⟩ := by
  have hrl := run_le (s.drop a)
  rw [List.length_drop] at hrl
  refine go163 rfl ?_; simp only [go_sem, ↓reduceIte, Nat.reduceAdd, Nat.reduceSub, Nat.reduceEqDiff, Nat.reduceLT, Nat.reduceLeDiff, Nat.reduceMul, Int.reduceNeg, Int.reduceToNat, Int.reduceEq, Int.reduceLT, Int.reduceLE, reduceCtorEq, Tryz.f163, ha]
  refine ends_for (run (s.drop a)) (by omega) (fun i _ => mkSt [(0, .addr 0 0 0), (3, .int .i64 a), (1000000, .addr 0 0 0)] [.pto [.str s, .int .i64 (a + i : Nat)]]) (fun _ _ => True) 0 () (by omega) trivial ?_ ?_
  · rintro i _ hi - hw ih
    have ih' := ih () trivial
    obtain ⟨h1, h2⟩ := run_get hi
    rw [List.length_drop] at h1
    rw [drop_at] at h2
    have h3 : a + i < s.length := by omega
    have h4 : wordI ((s.getD (a + i) 0).toNat : Int) = true := h2
    have hw1 : IntKind.i64.wrap (((a + i : Nat) : Int) + 1) = ((a + (i + 1) : Nat) : Int) := by rw [wrap_in (by omega) (by omega)]; omega
    simp only [go_sem, ↓reduceIte, Nat.reduceAdd, Nat.reduceSub, Nat.reduceEqDiff, Nat.reduceLT, Nat.reduceLeDiff, Nat.reduceMul, Int.reduceNeg, Int.reduceToNat, Int.reduceEq, Int.reduceLT, Int.reduceLE, reduceCtorEq, h3, h4, hw1]
    exact ih'
  · rintro _ -
    have hcut : cut s (a : Int) ((a + run (s.drop a) : Nat) : Int) = (s.drop a).take (run (s.drop a)) := by
      simp [cut]
      congr 1
      omega
    by_cases h : a + run (s.drop a) < s.length
    · have h2 := run_end (t := s.drop a) (by rw [List.length_drop]; omega)
      rw [drop_at] at h2
      have h4 : wordI ((s.getD (a + run (s.drop a)) 0).toNat : Int) = false := h2
      simp only [go_sem, ↓reduceIte, Nat.reduceAdd, Nat.reduceSub, Nat.reduceEqDiff, Nat.reduceLT, Nat.reduceLeDiff, Nat.reduceMul, Int.reduceNeg, Int.reduceToNat, Int.reduceEq, Int.reduceLT, Int.reduceLE, reduceCtorEq, h, h4, hcut]
      omega
    · simp only [go_sem, ↓reduceIte, Nat.reduceAdd, Nat.reduceSub, Nat.reduceEqDiff, Nat.reduceLT, Nat.reduceLeDiff, Nat.reduceMul, Int.reduceNeg, Int.reduceToNat, Int.reduceEq, Int.reduceLT, Int.reduceLE, reduceCtorEq, h, hcut]
      omega
@[go_sem] theorem pnum_R (s : Str) (a : Nat) (ha : a ≤ s.length) (hs : s.length ≤ 1000) : R S0 162 [.pto [.str s, .int .i64 a]] = some ⟨[some (.pto [.str s, .int .i64 (a + (numC (s.drop a)).2 : Nat)])], .int .i64 (numC (s.drop a)).1⟩ := by
  have hle := numC_le (s.drop a)
  rw [List.length_drop] at hle
  have key : ∀ b : Nat, b = (if begM [45] (s.drop a) = true then 1 else 0) → numC (s.drop a) = ((numI ((s.drop a).take (b + run (s.drop (a + b))))).1, b + run (s.drop (a + b))) := fun b hb => by
    rw [numC, ← hb, List.drop_drop]
  have hcut : ∀ n : Nat, cut s (a : Int) ((a + n : Nat) : Int) = (s.drop a).take n := fun n => by
    simp [cut]
    congr 1
    omega
  cases h : begM [45] (s.drop a) with
  | true =>
    have hl := begM_len h
    rw [List.length_drop] at hl
    simp only [List.length_cons, List.length_nil] at hl
    have e := key 1 (by rw [h]; rfl)
    have ha1 : a + 1 ≤ s.length := by omega
    rw [e] at hle ⊢
    have hc := hcut (1 + run (s.drop (a + 1)))
    rw [← Nat.add_assoc] at hc ⊢
    have hnl : ((s.drop a).take (1 + run (s.drop (a + 1)))).length ≤ 1099511627776 := by rw [List.length_take, List.length_drop]; omega
    refine go162 rfl ?_; simp only [go_sem, ↓reduceIte, Nat.reduceAdd, Nat.reduceSub, Nat.reduceEqDiff, Nat.reduceLT, Nat.reduceLeDiff, Nat.reduceMul, Int.reduceNeg, Int.reduceToNat, Int.reduceEq, Int.reduceLT, Int.reduceLE, reduceCtorEq, Tryz.f162, h, ha, ha1, hs, hc, hnl, List.length_cons, List.length_nil]
    omega
  | false =>
    have e : numC (s.drop a) = ((numI ((s.drop a).take (run (s.drop a)))).1, run (s.drop a)) := by have := key 0 (by rw [h]; rfl); simpa using this
    rw [e] at hle ⊢
    simp only at hle
    have hc := hcut (run (s.drop a))
    have hnl : ((s.drop a).take (run (s.drop a))).length ≤ 1099511627776 := by rw [List.length_take, List.length_drop]; omega
    refine go162 rfl ?_; simp only [go_sem, ↓reduceIte, Nat.reduceAdd, Nat.reduceSub, Nat.reduceEqDiff, Nat.reduceLT, Nat.reduceLeDiff, Nat.reduceMul, Int.reduceNeg, Int.reduceToNat, Int.reduceEq, Int.reduceLT, Int.reduceLE, reduceCtorEq, Tryz.f162, h, ha, hs, hc, hnl]
    omega
end Go.Proofs.YtmanllfmgghadaaGreatDoor.PVE
