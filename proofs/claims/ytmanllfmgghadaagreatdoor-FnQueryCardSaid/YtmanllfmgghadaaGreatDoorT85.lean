/- The reference's reader of questions: its words. -/
import Derived.Test.YtmanllfmgghadaaGreatDoorT84
set_option linter.unusedVariables false
set_option linter.unusedSimpArgs false
set_option maxRecDepth 100000
namespace Go.Proofs.YtmanllfmgghadaaGreatDoor.PVE
open PV Query
@[go_sem] theorem may2_R (s p : Str) (a : Nat) (f : Bool) (ha : a ≤ s.length) (hs : s.length ≤ 1000) : R S0 152 [.pto [.str s, .int .i64 a, .bool f], .str p] = some ⟨[some (.pto [.str s, .int .i64 (if begM p (s.drop a) = true then a + p.length else a : Nat), .bool f]), none], .bool (begM p (s.drop a))⟩ := by
  have hc : cut s (a : Int) s.length = s.drop a := cut_drop s a
  cases h : begM p (s.drop a) with
  | true =>
    have hl := begM_len h
    rw [List.length_drop] at hl
    have hw : IntKind.i64.wrap ((a : Int) + (p.length : Int)) = ((a + p.length : Nat) : Int) := by rw [wrap_in (by omega) (by omega)]; omega
    refine go152 rfl ?_; simp only [go_sem, ↓reduceIte, Nat.reduceAdd, Nat.reduceSub, Nat.reduceEqDiff, Nat.reduceLT, Nat.reduceLeDiff, Nat.reduceMul, Int.reduceNeg, Int.reduceToNat, Int.reduceEq, Int.reduceLT, Int.reduceLE, reduceCtorEq, Tryz.f152, hc, h, hw, ha]
  | false =>
    refine go152 rfl ?_; simp only [go_sem, ↓reduceIte, Nat.reduceAdd, Nat.reduceSub, Nat.reduceEqDiff, Nat.reduceLT, Nat.reduceLeDiff, Nat.reduceMul, Int.reduceNeg, Int.reduceToNat, Int.reduceEq, Int.reduceLT, Int.reduceLE, reduceCtorEq, Tryz.f152, hc, h, ha]
theorem index_char {c : UInt8} : ∀ {t : Str} {m : Nat}, Lib.indexByte t c = m → t.getD m 0 = c ∧ ∀ j, j < m → t.getD j 0 ≠ c
  | [], m, h => by simp [Lib.indexByte] at h
  | b :: t, m, h => by
    by_cases hb : b = c
    · subst hb
      simp [Lib.indexByte] at h
      obtain rfl : m = 0 := by omega
      exact ⟨rfl, fun j hj => by omega⟩
    · have hbc : (b == c) = false := by simpa using hb
      simp only [Lib.indexByte, hbc, Bool.false_eq_true, if_false] at h
      by_cases h1 : (Lib.indexByte t c == -1) = true
      · rw [if_pos h1] at h; omega
      · rw [if_neg h1] at h
        have hge := Lib.indexByte_ge t c
        have hne : Lib.indexByte t c ≠ -1 := by simpa using h1
        obtain ⟨n, hn⟩ : ∃ n : Nat, Lib.indexByte t c = n := ⟨(Lib.indexByte t c).toNat, by omega⟩
        obtain rfl : m = n + 1 := by omega
        obtain ⟨i1, i2⟩ := index_char hn
        refine ⟨by simpa using i1, fun j hj => ?_⟩
        cases j with
        | zero => simpa using hb
        | succ j => have := i2 j (by omega); simpa using this
theorem no_char {c : UInt8} {t : Str} (h : c ∉ t) {i : Nat} (hi : i < t.length) : t.getD i 0 ≠ c := fun e => by
  rw [List.getD_eq_getElem?_getD, List.getElem?_eq_getElem hi, Option.getD_some] at e
  exact h (e ▸ List.getElem_mem hi)
def cutO (s : Str) (c : UInt8) : List Str := if c ∈ s then [s.take (Lib.indexByte s c).toNat, s.drop ((Lib.indexByte s c).toNat + 1)] else [s]
theorem l1Cut1_R (s : Str) (c : UInt8) (hs : s.length ≤ 1000) : R S0 239 [.str s, .int .u8 c.toNat, .int .i64 1] = some ⟨[none, none, none], .slo 1 ((cutO s c).map .str)⟩ := by
  by_cases h : c ∈ s
  · obtain ⟨m, h1, h2⟩ := index_le h
    obtain ⟨i1, i2⟩ := index_char h1
    have e : cutO s c = [s.take m, s.drop (m + 1)] := by rw [cutO, if_pos h, h1, Int.toNat_natCast]
    rw [e]
    refine go239 rfl ?_; simp only [go_sem, ↓reduceIte, Nat.reduceAdd, Nat.reduceSub, Nat.reduceEqDiff, Nat.reduceLT, Nat.reduceLeDiff, Nat.reduceMul, Int.reduceNeg, Int.reduceToNat, Int.reduceEq, Int.reduceLT, Int.reduceLE, reduceCtorEq, Tryz.f239]
    refine ends_for m (by omega) (fun i _ => mkSt [(0, .str s), (1, .int .u8 c.toNat), (2, .int .i64 1), (7, .own 0), (8, .int .i64 0), (9, .int .i64 i)] [.slo 1 []]) (fun _ _ => True) 0 () (by omega) trivial ?_ ?_
    · rintro i _ hi - hw ih
      have hne := i2 i hi
      have hi2 : i < s.length := by omega
      have hne2 : ¬ ((s.getD i 0).toNat : Int) = c.toNat := by rw [byte_eq _ c rfl]; exact hne
      simp only [go_sem, ↓reduceIte, Nat.reduceAdd, Nat.reduceSub, Nat.reduceEqDiff, Nat.reduceLT, Nat.reduceLeDiff, Nat.reduceMul, Int.reduceNeg, Int.reduceToNat, Int.reduceEq, Int.reduceLT, Int.reduceLE, reduceCtorEq, hi, hi2, hw, hne2]
      exact ih () trivial
    · rintro _ -
      have hi2 : m < s.length := by omega
      have heq : ((s.getD m 0).toNat : Int) = c.toNat := by rw [i1]
      have c1 : cut s 0 (m : Int) = s.take m := cut_take s m
      have c2 : cut s ((m + 1 : Nat) : Int) s.length = s.drop (m + 1) := cut_drop s (m + 1)
      have hw : IntKind.i64.wrap ((m : Int) + 1) = ((m + 1 : Nat) : Int) := by rw [wrap_in (by omega) (by omega)]; omega
      simp only [go_sem, ↓reduceIte, Nat.reduceAdd, Nat.reduceSub, Nat.reduceEqDiff, Nat.reduceLT, Nat.reduceLeDiff, Nat.reduceMul, Int.reduceNeg, Int.reduceToNat, Int.reduceEq, Int.reduceLT, Int.reduceLE, reduceCtorEq, hi2, heq, c1, c2, hw]
      refine ⟨by omega, ?_⟩
      rw [go_head]
      by_cases h3 : m + 1 < s.length
      · simp only [go_sem, ↓reduceIte, Nat.reduceAdd, Nat.reduceSub, Nat.reduceEqDiff, Nat.reduceLT, Nat.reduceLeDiff, Nat.reduceMul, Int.reduceNeg, Int.reduceToNat, Int.reduceEq, Int.reduceLT, Int.reduceLE, reduceCtorEq, h3, c2]
        first | omega | skip
      · simp only [go_sem, ↓reduceIte, Nat.reduceAdd, Nat.reduceSub, Nat.reduceEqDiff, Nat.reduceLT, Nat.reduceLeDiff, Nat.reduceMul, Int.reduceNeg, Int.reduceToNat, Int.reduceEq, Int.reduceLT, Int.reduceLE, reduceCtorEq, h3, c2]
        first | omega | skip
  · have e : cutO s c = [s] := by rw [cutO, if_neg h]
    rw [e]
    refine go239 rfl ?_; simp only [go_sem, ↓reduceIte, Nat.reduceAdd, Nat.reduceSub, Nat.reduceEqDiff, Nat.reduceLT, Nat.reduceLeDiff, Nat.reduceMul, Int.reduceNeg, Int.reduceToNat, Int.reduceEq, Int.reduceLT, Int.reduceLE, reduceCtorEq, Tryz.f239]
    refine ends_for s.length (by omega) (fun i _ => mkSt [(0, .str s), (1, .int .u8 c.toNat), (2, .int .i64 1), (7, .own 0), (8, .int .i64 0), (9, .int .i64 i)] [.slo 1 []]) (fun _ _ => True) 0 () (by omega) trivial ?_ ?_
    · rintro i _ hi - hw ih
      have hne := no_char h hi
      have hne2 : ¬ ((s.getD i 0).toNat : Int) = c.toNat := by rw [byte_eq _ c rfl]; exact hne
      simp only [go_sem, ↓reduceIte, Nat.reduceAdd, Nat.reduceSub, Nat.reduceEqDiff, Nat.reduceLT, Nat.reduceLeDiff, Nat.reduceMul, Int.reduceNeg, Int.reduceToNat, Int.reduceEq, Int.reduceLT, Int.reduceLE, reduceCtorEq, hi, hw, hne2]
      exact ih () trivial
    · rintro _ -
      have c2 : cut s 0 s.length = s := by have := cut_drop s 0; simpa using this
      simp only [go_sem, ↓reduceIte, Nat.reduceAdd, Nat.reduceSub, Nat.reduceEqDiff, Nat.reduceLT, Nat.reduceLeDiff, Nat.reduceMul, Int.reduceNeg, Int.reduceToNat, Int.reduceEq, Int.reduceLT, Int.reduceLE, reduceCtorEq, c2]
@[go_sem] theorem until_R (s : Str) (c : UInt8) (a : Nat) (f : Bool) (ha : a ≤ s.length) (hs : s.length ≤ 1000) : R S0 204 [.pto [.str s, .int .i64 a, .bool f], .int .u8 c.toNat] = some ⟨[some (.pto [.str s, .int .i64 (a + (untC (s.drop a) c).2.1 : Nat), .bool (f || (untC (s.drop a) c).2.2)]), none], .str (untC (s.drop a) c).1⟩ := by
  have hc : cut s (a : Int) s.length = s.drop a := cut_drop s a
  have hdl : (s.drop a).length ≤ 1000 := by rw [List.length_drop]; omega
  have hC := l1Cut1_R (s.drop a) c hdl
  by_cases h : c ∈ s.drop a
  · obtain ⟨m, h1, h2⟩ := index_le h
    have e : untC (s.drop a) c = ((s.drop a).take m, m + 1, false) := by rw [untC, if_pos h, h1, Int.toNat_natCast]
    have e2 : cutO (s.drop a) c = [(s.drop a).take m, (s.drop a).drop (m + 1)] := by rw [cutO, if_pos h, h1, Int.toNat_natCast]
    have hl : ((s.drop a).take m).length = m := by rw [List.length_take]; omega
    rw [e2] at hC
    rw [e, Bool.or_false]
    rw [List.length_drop] at h2
    have w1 : IntKind.i64.wrap ((a : Int) + (m : Int)) = ((a + m : Nat) : Int) := by rw [wrap_in (by omega) (by omega)]; omega
    have w2 : IntKind.i64.wrap (((a + m : Nat) : Int) + 1) = ((a + (m + 1) : Nat) : Int) := by rw [wrap_in (by omega) (by omega)]; omega
    refine go204 rfl ?_; simp only [go_sem, ↓reduceIte, Nat.reduceAdd, Nat.reduceSub, Nat.reduceEqDiff, Nat.reduceLT, Nat.reduceLeDiff, Nat.reduceMul, Int.reduceNeg, Int.reduceToNat, Int.reduceEq, Int.reduceLT, Int.reduceLE, reduceCtorEq, Tryz.f204, hc, hC, hl, w1, w2, ha]
    repeat' (first | omega | decide +kernel | apply And.intro)
  · have e : untC (s.drop a) c = ([], 0, true) := by rw [untC, if_neg h]
    have e2 : cutO (s.drop a) c = [s.drop a] := by rw [cutO, if_neg h]
    rw [e2] at hC
    rw [e, Bool.or_true]
    refine go204 rfl ?_; simp only [go_sem, ↓reduceIte, Nat.reduceAdd, Nat.reduceSub, Nat.reduceEqDiff, Nat.reduceLT, Nat.reduceLeDiff, Nat.reduceMul, Int.reduceNeg, Int.reduceToNat, Int.reduceEq, Int.reduceLT, Int.reduceLE, reduceCtorEq, Tryz.f204, hc, hC, ha]
    repeat' (first | omega | decide +kernel | apply And.intro)
@[go_sem] theorem until58_R (s : Str) (a : Nat) (f : Bool) (ha : a ≤ s.length) (hs : s.length ≤ 1000) : R S0 204 [.pto [.str s, .int .i64 a, .bool f], .int .u8 58] = some ⟨[some (.pto [.str s, .int .i64 (a + (untC (s.drop a) 58).2.1 : Nat), .bool (f || (untC (s.drop a) 58).2.2)]), none], .str (untC (s.drop a) 58).1⟩ := until_R s 58 a f ha hs
@[go_sem] theorem until125_R (s : Str) (a : Nat) (f : Bool) (ha : a ≤ s.length) (hs : s.length ≤ 1000) : R S0 204 [.pto [.str s, .int .i64 a, .bool f], .int .u8 125] = some ⟨[some (.pto [.str s, .int .i64 (a + (untC (s.drop a) 125).2.1 : Nat), .bool (f || (untC (s.drop a) 125).2.2)]), none], .str (untC (s.drop a) 125).1⟩ := until_R s 125 a f ha hs
@[go_sem] theorem until34_R (s : Str) (a : Nat) (f : Bool) (ha : a ≤ s.length) (hs : s.length ≤ 1000) : R S0 204 [.pto [.str s, .int .i64 a, .bool f], .int .u8 34] = some ⟨[some (.pto [.str s, .int .i64 (a + (untC (s.drop a) 34).2.1 : Nat), .bool (f || (untC (s.drop a) 34).2.2)]), none], .str (untC (s.drop a) 34).1⟩ := until_R s 34 a f ha hs
@[go_sem] theorem srun_R (s : Str) (a : Nat) (f : Bool) (ha : a ≤ s.length) (hs : s.length ≤ 1000) : R S0 155 [.pto [.str s, .int .i64 a, .bool f]] = some ⟨[some (.pto [.str s, .int .i64 (a + run (s.drop a) : Nat), .bool f])], .str ((s.drop a).take (run (s.drop a)))⟩ := by
  have hrl := run_le (s.drop a)
  rw [List.length_drop] at hrl
  refine go155 rfl ?_; simp only [go_sem, ↓reduceIte, Nat.reduceAdd, Nat.reduceSub, Nat.reduceEqDiff, Nat.reduceLT, Nat.reduceLeDiff, Nat.reduceMul, Int.reduceNeg, Int.reduceToNat, Int.reduceEq, Int.reduceLT, Int.reduceLE, reduceCtorEq, Tryz.f155, ha]
  refine ends_for (run (s.drop a)) (by omega) (fun i _ => mkSt [(0, .addr 0 0 0), (3, .int .i64 a), (1000000, .addr 0 0 0)] [.pto [.str s, .int .i64 (a + i : Nat), .bool f]]) (fun _ _ => True) 0 () (by omega) trivial ?_ ?_
  · rintro i _ hi - hw ih
    have ih' := ih () trivial
    obtain ⟨h1, h2⟩ := run_get hi
    rw [List.length_drop] at h1
    rw [drop_at] at h2
    have h3 : a + i < s.length := by omega
    have hw1 : IntKind.i64.wrap (((a + i : Nat) : Int) + 1) = ((a + (i + 1) : Nat) : Int) := by rw [wrap_in (by omega) (by omega)]; omega
    simp only [go_sem, ↓reduceIte, Nat.reduceAdd, Nat.reduceSub, Nat.reduceEqDiff, Nat.reduceLT, Nat.reduceLeDiff, Nat.reduceMul, Int.reduceNeg, Int.reduceToNat, Int.reduceEq, Int.reduceLT, Int.reduceLE, reduceCtorEq, h3, h2, hw1]
    exact ih'
  · rintro _ -
    have hcut : cut s (a : Int) ((a + run (s.drop a) : Nat) : Int) = (s.drop a).take (run (s.drop a)) := by
      simp [cut]
      congr 1
      omega
    by_cases h : a + run (s.drop a) < s.length
    · have h2 := run_end (t := s.drop a) (by rw [List.length_drop]; omega)
      rw [drop_at] at h2
      simp only [go_sem, ↓reduceIte, Nat.reduceAdd, Nat.reduceSub, Nat.reduceEqDiff, Nat.reduceLT, Nat.reduceLeDiff, Nat.reduceMul, Int.reduceNeg, Int.reduceToNat, Int.reduceEq, Int.reduceLT, Int.reduceLE, reduceCtorEq, h, h2, hcut]
      omega
    · simp only [go_sem, ↓reduceIte, Nat.reduceAdd, Nat.reduceSub, Nat.reduceEqDiff, Nat.reduceLT, Nat.reduceLeDiff, Nat.reduceMul, Int.reduceNeg, Int.reduceToNat, Int.reduceEq, Int.reduceLT, Int.reduceLE, reduceCtorEq, h, hcut]
      omega
@[go_sem] theorem snum_R (s : Str) (a : Nat) (f : Bool) (ha : a ≤ s.length) (hs : s.length ≤ 1000) : R S0 205 [.pto [.str s, .int .i64 a, .bool f]] = some ⟨[some (.pto [.str s, .int .i64 (a + (numE (s.drop a)).2.1 : Nat), .bool (f || (numE (s.drop a)).2.2)])], .int .i64 (numE (s.drop a)).1⟩ := by
  have hle := numE_le (s.drop a)
  rw [List.length_drop] at hle
  cases h : begM [45] (s.drop a) with
  | true =>
    have hl := begM_len h
    rw [List.length_drop] at hl
    simp only [List.length_cons, List.length_nil] at hl
    have ha1 : a + 1 ≤ s.length := by omega
    have hr1 := run_le (s.drop (a + 1))
    rw [List.length_drop] at hr1
    have e0 : (s.drop a).take (1 + run (s.drop (a + 1))) = 45 :: (s.drop (a + 1)).take (run (s.drop (a + 1))) := by
      have hd := begM_of h
      rw [List.length_singleton, List.drop_drop] at hd
      rw [hd, Nat.add_comm 1, List.singleton_append, List.take_succ_cons]
    have e : numE (s.drop a) = ((numS (45 :: (s.drop (a + 1)).take (run (s.drop (a + 1))))).1, 1 + run (s.drop (a + 1)), !(numS (45 :: (s.drop (a + 1)).take (run (s.drop (a + 1))))).2) := by
      simp only [numE, h, if_true, List.drop_drop, e0]
    rw [e, ← Nat.add_assoc]
    have hnl : (45 :: (s.drop (a + 1)).take (run (s.drop (a + 1)))).length ≤ 1099511627776 := by rw [List.length_cons, List.length_take, List.length_drop]; omega
    have hN := l1Number_R _ hnl
    have hnl2 : ((s.drop (a + 1)).take (run (s.drop (a + 1)))).length ≤ 1000 := by rw [List.length_take, List.length_drop]; omega
    cases hx : (numS (45 :: (s.drop (a + 1)).take (run (s.drop (a + 1))))).2 with
    | true =>
      refine go205 rfl ?_; simp only [go_sem, ↓reduceIte, Nat.reduceAdd, Nat.reduceSub, Nat.reduceEqDiff, Nat.reduceLT, Nat.reduceLeDiff, Nat.reduceMul, Int.reduceNeg, Int.reduceToNat, Int.reduceEq, Int.reduceLT, Int.reduceLE, reduceCtorEq, Tryz.f205, h, ha, ha1, hs, hN, hx, List.length_cons, List.length_nil]
      repeat' (first | omega | decide +kernel | apply And.intro)
    | false =>
      refine go205 rfl ?_; simp only [go_sem, ↓reduceIte, Nat.reduceAdd, Nat.reduceSub, Nat.reduceEqDiff, Nat.reduceLT, Nat.reduceLeDiff, Nat.reduceMul, Int.reduceNeg, Int.reduceToNat, Int.reduceEq, Int.reduceLT, Int.reduceLE, reduceCtorEq, Tryz.f205, h, ha, ha1, hs, hN, hx, List.length_cons, List.length_nil]
      repeat' (first | omega | decide +kernel | apply And.intro)
  | false =>
    have hr1 := run_le (s.drop a)
    rw [List.length_drop] at hr1
    have e : numE (s.drop a) = ((numS ((s.drop a).take (run (s.drop a)))).1, run (s.drop a), !(numS ((s.drop a).take (run (s.drop a)))).2) := by
      simp only [numE, h, Bool.false_eq_true, if_false, List.drop_zero, Nat.zero_add]
    rw [e]
    have hnl : ((s.drop a).take (run (s.drop a))).length ≤ 1099511627776 := by rw [List.length_take, List.length_drop]; omega
    have hN := l1Number_R _ hnl
    have hnl2 : ((s.drop a).take (run (s.drop a))).length ≤ 1000 := by rw [List.length_take, List.length_drop]; omega
    cases hx : (numS ((s.drop a).take (run (s.drop a)))).2 with
    | true =>
      refine go205 rfl ?_; simp only [go_sem, ↓reduceIte, Nat.reduceAdd, Nat.reduceSub, Nat.reduceEqDiff, Nat.reduceLT, Nat.reduceLeDiff, Nat.reduceMul, Int.reduceNeg, Int.reduceToNat, Int.reduceEq, Int.reduceLT, Int.reduceLE, reduceCtorEq, Tryz.f205, h, ha, hs, hN, hx, List.length_cons, List.length_nil]
      repeat' (first | omega | decide +kernel | apply And.intro)
    | false =>
      refine go205 rfl ?_; simp only [go_sem, ↓reduceIte, Nat.reduceAdd, Nat.reduceSub, Nat.reduceEqDiff, Nat.reduceLT, Nat.reduceLeDiff, Nat.reduceMul, Int.reduceNeg, Int.reduceToNat, Int.reduceEq, Int.reduceLT, Int.reduceLE, reduceCtorEq, Tryz.f205, h, ha, hs, hN, hx, List.length_cons, List.length_nil]
      repeat' (first | omega | decide +kernel | apply And.intro)
end Go.Proofs.YtmanllfmgghadaaGreatDoor.PVE
