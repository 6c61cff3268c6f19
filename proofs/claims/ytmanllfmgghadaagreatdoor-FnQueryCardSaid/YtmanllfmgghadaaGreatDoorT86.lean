/- The reference's reader of questions: any text; the text of a question. -/
import Derived.Test.YtmanllfmgghadaaGreatDoorT85
set_option linter.unusedVariables false
set_option linter.unusedSimpArgs false
set_option maxRecDepth 100000
namespace Go.Proofs.YtmanllfmgghadaaGreatDoor.PVE
open PV Query
theorem smark_R (s : Str) (a : Nat) (ha : a ≤ s.length) (hs : s.length ≤ 1000) : R S0 154 [.pto [.str s, .int .i64 a, .bool false]] = some ⟨[some (.pto [.str s, .int .i64 (a + (markS (s.drop a)).2.1 : Nat), .bool (markS (s.drop a)).2.2])], .agg [.int .i64 (markS (s.drop a)).1.kind, .str (markS (s.drop a)).1.field, .str (markS (s.drop a)).1.text, .int .i64 (markS (s.drop a)).1.low, .int .i64 (markS (s.drop a)).1.high, .slo 6 ((markS (s.drop a)).1.parts.map pvo)]⟩ := by
  have u1 := untC_le (s.drop a) 58
  rw [List.length_drop] at u1
  have h2 : a + (untC (s.drop a) 58).2.1 ≤ s.length := by omega
  cases c123 : begM [123] (s.drop (a + (untC (s.drop a) 58).2.1)) with
  | true =>
    have h3 : a + (untC (s.drop a) 58).2.1 + 1 ≤ s.length := by
      have := begM_len c123
      rw [List.length_drop] at this
      simp only [List.length_cons, List.length_nil] at this
      omega
    have e : markS (s.drop a) = (.mk 6 (untC (s.drop a) 58).1 (untC (s.drop (a + (untC (s.drop a) 58).2.1 + 1)) 125).1 0 0 [], (untC (s.drop a) 58).2.1 + 1 + (untC (s.drop (a + (untC (s.drop a) 58).2.1 + 1)) 125).2.1, (untC (s.drop a) 58).2.2 || (untC (s.drop (a + (untC (s.drop a) 58).2.1 + 1)) 125).2.2) := by
      simp only [markS, List.drop_drop, ← Nat.add_assoc, c123, if_true, if_false, Bool.false_eq_true, Bool.not_true, Bool.not_false, Bool.false_or, Bool.or_false, Bool.true_or, Bool.or_true]
    rw [e]
    try simp only [← Nat.add_assoc]
    refine go154 rfl ?_; simp only [go_sem, ↓reduceIte, Nat.reduceAdd, Nat.reduceSub, Nat.reduceEqDiff, Nat.reduceLT, Nat.reduceLeDiff, Nat.reduceMul, Int.reduceNeg, Int.reduceToNat, Int.reduceEq, Int.reduceLT, Int.reduceLE, reduceCtorEq, Tryz.f154, ha, hs, h2, h3, c123, Bool.false_or, List.length_cons, List.length_nil]
    repeat' (first | omega | decide +kernel | rfl | apply And.intro)
  | false =>
    have u2 := numE_le (s.drop (a + (untC (s.drop a) 58).2.1))
    rw [List.length_drop] at u2
    have h3 : a + (untC (s.drop a) 58).2.1 + (numE (s.drop (a + (untC (s.drop a) 58).2.1))).2.1 ≤ s.length := by omega
    cases c46 : begM [46, 46] (s.drop (a + (untC (s.drop a) 58).2.1 + (numE (s.drop (a + (untC (s.drop a) 58).2.1))).2.1)) with
    | true =>
      have h5 : a + (untC (s.drop a) 58).2.1 + (numE (s.drop (a + (untC (s.drop a) 58).2.1))).2.1 + 2 ≤ s.length := by
        have := begM_len c46
        rw [List.length_drop] at this
        simp only [List.length_cons, List.length_nil] at this
        omega
      have e : markS (s.drop a) = (.mk 5 (untC (s.drop a) 58).1 [] (numE (s.drop (a + (untC (s.drop a) 58).2.1))).1 (numE (s.drop (a + (untC (s.drop a) 58).2.1 + (numE (s.drop (a + (untC (s.drop a) 58).2.1))).2.1 + 2))).1 [], (untC (s.drop a) 58).2.1 + (numE (s.drop (a + (untC (s.drop a) 58).2.1))).2.1 + 2 + (numE (s.drop (a + (untC (s.drop a) 58).2.1 + (numE (s.drop (a + (untC (s.drop a) 58).2.1))).2.1 + 2))).2.1, (untC (s.drop a) 58).2.2 || (numE (s.drop (a + (untC (s.drop a) 58).2.1))).2.2 || (numE (s.drop (a + (untC (s.drop a) 58).2.1 + (numE (s.drop (a + (untC (s.drop a) 58).2.1))).2.1 + 2))).2.2) := by
        simp only [markS, List.drop_drop, ← Nat.add_assoc, c123, c46, if_true, if_false, Bool.false_eq_true, Bool.not_true, Bool.not_false, Bool.false_or, Bool.or_false, Bool.true_or, Bool.or_true]
      rw [e]
      try simp only [← Nat.add_assoc]
      refine go154 rfl ?_; simp only [go_sem, ↓reduceIte, Nat.reduceAdd, Nat.reduceSub, Nat.reduceEqDiff, Nat.reduceLT, Nat.reduceLeDiff, Nat.reduceMul, Int.reduceNeg, Int.reduceToNat, Int.reduceEq, Int.reduceLT, Int.reduceLE, reduceCtorEq, Tryz.f154, ha, hs, h2, h3, h5, c123, c46, Bool.false_or, List.length_cons, List.length_nil]
      repeat' (first | omega | decide +kernel | rfl | apply And.intro)
    | false =>
      have e : markS (s.drop a) = (.mk 5 (untC (s.drop a) 58).1 [] (numE (s.drop (a + (untC (s.drop a) 58).2.1))).1 (numE (s.drop (a + (untC (s.drop a) 58).2.1 + (numE (s.drop (a + (untC (s.drop a) 58).2.1))).2.1))).1 [], (untC (s.drop a) 58).2.1 + (numE (s.drop (a + (untC (s.drop a) 58).2.1))).2.1 + (numE (s.drop (a + (untC (s.drop a) 58).2.1 + (numE (s.drop (a + (untC (s.drop a) 58).2.1))).2.1))).2.1, true) := by
        simp only [markS, List.drop_drop, ← Nat.add_assoc, c123, c46, if_true, if_false, Bool.false_eq_true, Bool.not_true, Bool.not_false, Bool.false_or, Bool.or_false, Bool.true_or, Bool.or_true]
      rw [e]
      try simp only [← Nat.add_assoc]
      refine go154 rfl ?_; simp only [go_sem, ↓reduceIte, Nat.reduceAdd, Nat.reduceSub, Nat.reduceEqDiff, Nat.reduceLT, Nat.reduceLeDiff, Nat.reduceMul, Int.reduceNeg, Int.reduceToNat, Int.reduceEq, Int.reduceLT, Int.reduceLE, reduceCtorEq, Tryz.f154, ha, hs, h2, h3, c123, c46, Bool.false_or, List.length_cons, List.length_nil]
      repeat' (first | omega | decide +kernel | rfl | apply And.intro)
theorem sword_R (s : Str) (a : Nat) (ha : a ≤ s.length) (hs : s.length ≤ 1000) : R S0 156 [.pto [.str s, .int .i64 a, .bool false]] = some ⟨[some (.pto [.str s, .int .i64 (a + (wordS (s.drop a)).2.1 : Nat), .bool (wordS (s.drop a)).2.2])], .agg [.int .i64 (wordS (s.drop a)).1.kind, .str (wordS (s.drop a)).1.field, .str (wordS (s.drop a)).1.text, .int .i64 (wordS (s.drop a)).1.low, .int .i64 (wordS (s.drop a)).1.high, .slo 6 ((wordS (s.drop a)).1.parts.map pvo)]⟩ := by
  have r1 := run_le (s.drop a)
  rw [List.length_drop] at r1
  have h1 : a + run (s.drop a) ≤ s.length := by omega
  have hz : ((s.drop a).take (run (s.drop a)) = []) = (run (s.drop a) = 0) := by
    rw [← List.length_eq_zero_iff, List.length_take, List.length_drop]
    apply propext
    omega
  cases c34 : begM [34] (s.drop a) with
  | true =>
    have h3 : a + 1 ≤ s.length := by
      have := begM_len c34
      rw [List.length_drop] at this
      simp only [List.length_cons, List.length_nil] at this
      omega
    have e : wordS (s.drop a) = (.mk 3 [] (untC (s.drop (a + 1)) 34).1 0 0 [], 1 + (untC (s.drop (a + 1)) 34).2.1, (untC (s.drop (a + 1)) 34).2.2) := by
      simp only [wordS, List.drop_drop, ← Nat.add_assoc, c34, if_true, if_false, Bool.false_eq_true, Bool.not_true, Bool.not_false, Bool.false_or, Bool.or_false, Bool.true_or, Bool.or_true]
    rw [e]
    try simp only [← Nat.add_assoc]
    refine go156 rfl ?_; simp only [go_sem, ↓reduceIte, Nat.reduceAdd, Nat.reduceSub, Nat.reduceEqDiff, Nat.reduceLT, Nat.reduceLeDiff, Nat.reduceMul, Int.reduceNeg, Int.reduceToNat, Int.reduceEq, Int.reduceLT, Int.reduceLE, reduceCtorEq, Tryz.f156, ha, hs, h3, c34, Bool.false_or, List.length_cons, List.length_nil]
    repeat' (first | omega | decide +kernel | rfl | apply And.intro)
  | false =>
    by_cases hr : run (s.drop a) = 0
    · have hd : decide (run (s.drop a) = 0) = true := decide_eq_true hr
      have hz0 : ((s.drop a).take (run (s.drop a)) = []) = True := by rw [hz]; exact eq_true hr
      cases c42 : begM [42] (s.drop (a + run (s.drop a))) with
      | true =>
        have h3 : a + run (s.drop a) + 1 ≤ s.length := by
          have := begM_len c42
          rw [List.length_drop] at this
          simp only [List.length_cons, List.length_nil] at this
          omega
        have e : wordS (s.drop a) = (.mk 4 [] ((s.drop a).take (run (s.drop a))) 0 0 [], run (s.drop a) + 1, true) := by
          simp only [wordS, List.drop_drop, ← Nat.add_assoc, c34, c42, hd, if_true, if_false, Bool.false_eq_true, Bool.not_true, Bool.not_false, Bool.false_or, Bool.or_false, Bool.true_or, Bool.or_true]
        rw [e]
        try simp only [← Nat.add_assoc]
        refine go156 rfl ?_; simp only [go_sem, ↓reduceIte, Nat.reduceAdd, Nat.reduceSub, Nat.reduceEqDiff, Nat.reduceLT, Nat.reduceLeDiff, Nat.reduceMul, Int.reduceNeg, Int.reduceToNat, Int.reduceEq, Int.reduceLT, Int.reduceLE, reduceCtorEq, Tryz.f156, ha, hs, h1, h3, c34, c42, hz0, Bool.false_or, List.length_cons, List.length_nil]
        repeat' (first | omega | decide +kernel | rfl | apply And.intro)
      | false =>
        have e : wordS (s.drop a) = (.mk 2 [] ((s.drop a).take (run (s.drop a))) 0 0 [], run (s.drop a), true) := by
          simp only [wordS, List.drop_drop, ← Nat.add_assoc, c34, c42, hd, if_true, if_false, Bool.false_eq_true, Bool.not_true, Bool.not_false, Bool.false_or, Bool.or_false, Bool.true_or, Bool.or_true]
        rw [e]
        refine go156 rfl ?_; simp only [go_sem, ↓reduceIte, Nat.reduceAdd, Nat.reduceSub, Nat.reduceEqDiff, Nat.reduceLT, Nat.reduceLeDiff, Nat.reduceMul, Int.reduceNeg, Int.reduceToNat, Int.reduceEq, Int.reduceLT, Int.reduceLE, reduceCtorEq, Tryz.f156, ha, hs, h1, c34, c42, hz0, Bool.false_or, List.length_cons, List.length_nil]
        repeat' (first | omega | decide +kernel | rfl | apply And.intro)
    · have hd : decide (run (s.drop a) = 0) = false := decide_eq_false hr
      have hz0 : ¬ (s.drop a).take (run (s.drop a)) = [] := by rw [hz]; exact hr
      cases c42 : begM [42] (s.drop (a + run (s.drop a))) with
      | true =>
        have h3 : a + run (s.drop a) + 1 ≤ s.length := by
          have := begM_len c42
          rw [List.length_drop] at this
          simp only [List.length_cons, List.length_nil] at this
          omega
        have e : wordS (s.drop a) = (.mk 4 [] ((s.drop a).take (run (s.drop a))) 0 0 [], run (s.drop a) + 1, false) := by
          simp only [wordS, List.drop_drop, ← Nat.add_assoc, c34, c42, hd, if_true, if_false, Bool.false_eq_true, Bool.not_true, Bool.not_false, Bool.false_or, Bool.or_false, Bool.true_or, Bool.or_true]
        rw [e]
        try simp only [← Nat.add_assoc]
        refine go156 rfl ?_; simp only [go_sem, ↓reduceIte, Nat.reduceAdd, Nat.reduceSub, Nat.reduceEqDiff, Nat.reduceLT, Nat.reduceLeDiff, Nat.reduceMul, Int.reduceNeg, Int.reduceToNat, Int.reduceEq, Int.reduceLT, Int.reduceLE, reduceCtorEq, Tryz.f156, ha, hs, h1, h3, c34, c42, hz0, Bool.false_or, List.length_cons, List.length_nil]
        repeat' (first | omega | decide +kernel | rfl | apply And.intro)
      | false =>
        have e : wordS (s.drop a) = (.mk 2 [] ((s.drop a).take (run (s.drop a))) 0 0 [], run (s.drop a), false) := by
          simp only [wordS, List.drop_drop, ← Nat.add_assoc, c34, c42, hd, if_true, if_false, Bool.false_eq_true, Bool.not_true, Bool.not_false, Bool.false_or, Bool.or_false, Bool.true_or, Bool.or_true]
        rw [e]
        refine go156 rfl ?_; simp only [go_sem, ↓reduceIte, Nat.reduceAdd, Nat.reduceSub, Nat.reduceEqDiff, Nat.reduceLT, Nat.reduceLeDiff, Nat.reduceMul, Int.reduceNeg, Int.reduceToNat, Int.reduceEq, Int.reduceLT, Int.reduceLE, reduceCtorEq, Tryz.f156, ha, hs, h1, c34, c42, hz0, Bool.false_or, List.length_cons, List.length_nil]
        repeat' (first | omega | decide +kernel | rfl | apply And.intro)
end Go.Proofs.YtmanllfmgghadaaGreatDoor.PVE
