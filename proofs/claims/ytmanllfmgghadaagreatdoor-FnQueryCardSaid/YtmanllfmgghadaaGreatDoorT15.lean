/- Documents: the reference's functions. -/
import Derived.Test.YtmanllfmgghadaaGreatDoorT14
import Derived.Test.YtmanllfmgghadaaGreatDoorT10
set_option linter.unusedVariables false
set_option linter.unusedSimpArgs false
set_option maxRecDepth 100000
namespace Go.Proofs.YtmanllfmgghadaaGreatDoor.PVE
open PV
theorem valF_take {s : Str} {i : Nat} (hi : i < s.length) : valF 0 (s.take (i + 1)) = valF 0 (s.take i) * 10 + ((s.getD i 0).toNat - 48) := by
  rw [List.take_add_one, List.getD_eq_getElem?_getD, List.getElem?_eq_getElem hi]
  simp only [Option.toList_some, Option.getD_some]
  rw [valF_snoc]
theorem valF_max {s : Str} (h : s.all digB = true) (h9 : s.length ≤ 9) : valF 0 s < 1000000000 := by
  have := valF_lt s 0 h
  have h2 : 10 ^ s.length ≤ 10 ^ 9 := Nat.pow_le_pow_right (by omega) h9
  omega
theorem figs_bound (s : Str) : -1 ≤ figs s ∧ figs s < 1000000000 := by
  unfold figs
  split
  · rename_i h
    have h1 := h.1
    simp only [figOk, Bool.and_eq_true] at h1
    have := valF_max h1.1.1 h.2
    omega
  · omega
@[go_sem] theorem l1Figures_R (s : Str) (hs : s.length ≤ 1099511627776) : R S0 238 [.str s] = some ⟨[none], .int .i64 (figs s)⟩ := by
  refine go238 rfl ?_; simp only [go_sem, ↓reduceIte, Nat.reduceAdd, Nat.reduceSub, Nat.reduceEqDiff, Nat.reduceLT, Nat.reduceLeDiff, Nat.reduceMul, Int.reduceNeg, Int.reduceToNat, Int.reduceEq, Int.reduceLT, Int.reduceLE, reduceCtorEq, Tryz.f238]
  refine ends_for s.length (by omega) (fun i (n : Nat) => mkSt [(0, .str s), (3, .int .i64 n), (4, .int .i64 i)] []) (fun i n => n = valF 0 (s.take i) ∧ (s.take i).all digB = true ∧ i ≤ 9) 0 0 (by omega) ⟨rfl, rfl, by omega⟩ ?_ ?_
  · rintro i n hi ⟨h1, h2, h3⟩ hw ih
    have hb := (s.getD i 0).toNat_lt
    have hn : n < 1000000000 := by rw [h1]; exact valF_max h2 (by simp; omega)
    have hx : s.getD i 0 ∈ s := by rw [List.getD_eq_getElem?_getD, List.getElem?_eq_getElem hi]; simp
    by_cases hd : digB (s.getD i 0) = true
    · by_cases h9 : i < 9
      · have hd' := hd
        simp only [digB, Bool.and_eq_true, decide_eq_true_eq] at hd'
        have e1 : IntKind.i64.wrap ((n : Int) * 10) = (n : Int) * 10 := wrap_in (by omega) (by omega)
        have e2 : IntKind.u8.wrap (((s.getD i 0).toNat : Int) - 48) = ((s.getD i 0).toNat : Int) - 48 := by
          show (((s.getD i 0).toNat : Int) - 48) % 256 = _
          omega
        have e3 : IntKind.i64.wrap (((s.getD i 0).toNat : Int) - 48) = ((s.getD i 0).toNat : Int) - 48 := wrap_in (by omega) (by omega)
        have e4 : IntKind.i64.wrap ((n : Int) * 10 + (((s.getD i 0).toNat : Int) - 48)) = ((n * 10 + ((s.getD i 0).toNat - 48) : Nat) : Int) := by rw [wrap_in (by omega) (by omega)]; omega
        have c1 : ¬ ((s.getD i 0).toNat : Int) < 48 := by omega
        have c2 : ¬ (57 : Int) < (s.getD i 0).toNat := by omega
        have c3 : ¬ (9 : Int) ≤ i := by omega
        simp only [go_sem, ↓reduceIte, Nat.reduceAdd, Nat.reduceSub, Nat.reduceEqDiff, Nat.reduceLT, Nat.reduceLeDiff, Nat.reduceMul, Int.reduceNeg, Int.reduceToNat, Int.reduceEq, Int.reduceLT, Int.reduceLE, reduceCtorEq, hi, hw, e1, e2, e3, e4, c1, c2, c3]
        refine ih _ ⟨by rw [valF_take hi, h1], ?_, by omega⟩
        rw [List.take_add_one, List.getD_eq_getElem?_getD, List.getElem?_eq_getElem hi] at *
        simp only [Option.toList_some, Option.getD_some] at *
        rw [List.all_append, h2]
        simp [hd]
      · have c3 : (9 : Int) ≤ i := by omega
        have hf : figs s = -1 := by
          unfold figs
          rw [if_neg (by rintro ⟨_, h⟩; omega)]
        by_cases c1 : ((s.getD i 0).toNat : Int) < 48
        · simp only [go_sem, ↓reduceIte, Nat.reduceAdd, Nat.reduceSub, Nat.reduceEqDiff, Nat.reduceLT, Nat.reduceLeDiff, Nat.reduceMul, Int.reduceNeg, Int.reduceToNat, Int.reduceEq, Int.reduceLT, Int.reduceLE, reduceCtorEq, hi, hw, c1, hf]
        · by_cases c2 : (57 : Int) < (s.getD i 0).toNat
          · simp only [go_sem, ↓reduceIte, Nat.reduceAdd, Nat.reduceSub, Nat.reduceEqDiff, Nat.reduceLT, Nat.reduceLeDiff, Nat.reduceMul, Int.reduceNeg, Int.reduceToNat, Int.reduceEq, Int.reduceLT, Int.reduceLE, reduceCtorEq, hi, hw, c1, c2, hf]
          · simp only [go_sem, ↓reduceIte, Nat.reduceAdd, Nat.reduceSub, Nat.reduceEqDiff, Nat.reduceLT, Nat.reduceLeDiff, Nat.reduceMul, Int.reduceNeg, Int.reduceToNat, Int.reduceEq, Int.reduceLT, Int.reduceLE, reduceCtorEq, hi, hw, c1, c2, c3, hf]
    · have hf : figs s = -1 := by
        unfold figs
        rw [if_neg]
        rintro ⟨h, _⟩
        simp only [figOk, Bool.and_eq_true] at h
        exact hd (List.all_eq_true.1 h.1.1 _ hx)
      by_cases c1 : ((s.getD i 0).toNat : Int) < 48
      · simp only [go_sem, ↓reduceIte, Nat.reduceAdd, Nat.reduceSub, Nat.reduceEqDiff, Nat.reduceLT, Nat.reduceLeDiff, Nat.reduceMul, Int.reduceNeg, Int.reduceToNat, Int.reduceEq, Int.reduceLT, Int.reduceLE, reduceCtorEq, hi, hw, c1, hf]
      · have c2 : (57 : Int) < (s.getD i 0).toNat := by
          simp only [digB, Bool.and_eq_true, decide_eq_true_eq, not_and] at hd
          omega
        simp only [go_sem, ↓reduceIte, Nat.reduceAdd, Nat.reduceSub, Nat.reduceEqDiff, Nat.reduceLT, Nat.reduceLeDiff, Nat.reduceMul, Int.reduceNeg, Int.reduceToNat, Int.reduceEq, Int.reduceLT, Int.reduceLE, reduceCtorEq, hi, hw, c1, c2, hf]
  · rintro n ⟨h1, h2, h3⟩
    rw [List.take_length] at h1 h2
    have hne : (s ≠ []) = (0 < s.length) := by rw [← List.length_pos_iff]
    by_cases h0 : s.length = 0
    · have hs0 : s = [] := List.length_eq_zero_iff.1 h0
      subst hs0
      have hf : figs [] = -1 := rfl
      simp only [go_sem, ↓reduceIte, Nat.reduceAdd, Nat.reduceSub, Nat.reduceEqDiff, Nat.reduceLT, Nat.reduceLeDiff, Nat.reduceMul, Int.reduceNeg, Int.reduceToNat, Int.reduceEq, Int.reduceLT, Int.reduceLE, reduceCtorEq, hf]
    · by_cases h4 : 1 < s.length
      · by_cases h5 : s.getD 0 0 = 48
        · have hf : figs s = -1 := by
            unfold figs
            rw [if_neg]
            rintro ⟨h, _⟩
            simp only [figOk, Bool.and_eq_true, Bool.not_eq_true', Bool.and_eq_false_iff, decide_eq_false_iff_not] at h
            rcases h.2 with h | h
            · exact h h4
            · exact h h5
          have z1 : ¬ (s.length : Int) = 0 := by omega
          have z2 : (1 : Int) < s.length := by omega
          have z3 : ((s.getD 0 0).toNat : Int) = 48 := by rw [h5]; rfl
          have z4 : (0 : Int) < s.length := by omega
          simp only [go_sem, ↓reduceIte, Nat.reduceAdd, Nat.reduceSub, Nat.reduceEqDiff, Nat.reduceLT, Nat.reduceLeDiff, Nat.reduceMul, Int.reduceNeg, Int.reduceToNat, Int.reduceEq, Int.reduceLT, Int.reduceLE, reduceCtorEq, z1, z2, z3, z4, hf]
        · have hf : figs s = n := by
            unfold figs
            rw [if_pos ⟨by simp only [figOk, h2, hne, h4, h5]; simp; omega, h3⟩, h1]
          have z1 : ¬ (s.length : Int) = 0 := by omega
          have z2 : (1 : Int) < s.length := by omega
          have z3 : ¬ ((s.getD 0 0).toNat : Int) = 48 := fun e => h5 (UInt8.toNat_inj.1 (show (s.getD 0 0).toNat = (48 : UInt8).toNat by show _ = 48; omega))
          have z4 : (0 : Int) < s.length := by omega
          simp only [go_sem, ↓reduceIte, Nat.reduceAdd, Nat.reduceSub, Nat.reduceEqDiff, Nat.reduceLT, Nat.reduceLeDiff, Nat.reduceMul, Int.reduceNeg, Int.reduceToNat, Int.reduceEq, Int.reduceLT, Int.reduceLE, reduceCtorEq, z1, z2, z3, z4, hf]
      · have hf : figs s = n := by
          unfold figs
          rw [if_pos ⟨by simp only [figOk, h2, hne, h4]; simp; omega, h3⟩, h1]
        have z1 : ¬ (s.length : Int) = 0 := by omega
        have z2 : ¬ (1 : Int) < s.length := by omega
        simp only [go_sem, ↓reduceIte, Nat.reduceAdd, Nat.reduceSub, Nat.reduceEqDiff, Nat.reduceLT, Nat.reduceLeDiff, Nat.reduceMul, Int.reduceNeg, Int.reduceToNat, Int.reduceEq, Int.reduceLT, Int.reduceLE, reduceCtorEq, z1, z2, hf]
@[go_sem] theorem l1Number_R (s : Str) (hs : s.length ≤ 1099511627776) : R S0 197 [.str s] = some ⟨[none], .tup [.int .i64 (numS s).1, .bool (numS s).2]⟩ := by
  have hd : (s.drop 1).length ≤ 1099511627776 := by simp; omega
  have hcut : cut s 1 (s.length : Int) = s.drop 1 := by simpa using cut_drop s 1
  by_cases h1 : 1 < s.length
  · have z2 : (1 : Int) < s.length := by omega
    have z4 : (0 : Int) < s.length := by omega
    have z5 : (1 : Int) ≤ s.length := by omega
    by_cases h2 : s.getD 0 0 = 45
    · have hb := figs_bound (s.drop 1)
      have hw : IntKind.i64.wrap (0 - figs (s.drop 1)) = -figs (s.drop 1) := by rw [wrap_in (by omega) (by omega)]; omega
      have e : numS s = (-figs (s.drop 1), decide (0 < figs (s.drop 1))) := by rw [numS, if_pos ⟨h1, h2⟩]
      have z3 : ((s.getD 0 0).toNat : Int) = 45 := by rw [h2]; rfl
      refine go197 rfl ?_; simp only [go_sem, ↓reduceIte, Nat.reduceAdd, Nat.reduceSub, Nat.reduceEqDiff, Nat.reduceLT, Nat.reduceLeDiff, Nat.reduceMul, Int.reduceNeg, Int.reduceToNat, Int.reduceEq, Int.reduceLT, Int.reduceLE, reduceCtorEq, Tryz.f197, z2, z3, z4, z5, hcut, hd, hw, e]
    · have e : numS s = (figs s, decide (0 ≤ figs s)) := by rw [numS, if_neg (by rintro ⟨_, h⟩; exact h2 h)]
      have z3 : ¬ ((s.getD 0 0).toNat : Int) = 45 := fun e => h2 (UInt8.toNat_inj.1 (show (s.getD 0 0).toNat = (45 : UInt8).toNat by show _ = 45; omega))
      refine go197 rfl ?_; simp only [go_sem, ↓reduceIte, Nat.reduceAdd, Nat.reduceSub, Nat.reduceEqDiff, Nat.reduceLT, Nat.reduceLeDiff, Nat.reduceMul, Int.reduceNeg, Int.reduceToNat, Int.reduceEq, Int.reduceLT, Int.reduceLE, reduceCtorEq, Tryz.f197, z2, z3, z4, hs, e]
  · have e : numS s = (figs s, decide (0 ≤ figs s)) := by rw [numS, if_neg (by rintro ⟨h, _⟩; exact h1 h)]
    have z2 : ¬ (1 : Int) < s.length := by omega
    refine go197 rfl ?_; simp only [go_sem, ↓reduceIte, Nat.reduceAdd, Nat.reduceSub, Nat.reduceEqDiff, Nat.reduceLT, Nat.reduceLeDiff, Nat.reduceMul, Int.reduceNeg, Int.reduceToNat, Int.reduceEq, Int.reduceLT, Int.reduceLE, reduceCtorEq, Tryz.f197, z2, hs, e]
theorem splitB_app (c : UInt8) (r : Str) : ∀ a : Str, c ∉ a → splitB c (a ++ c :: r) = a :: splitB c r
  | [], _ => by simp [splitB]
  | b :: a, h => by
    simp only [List.mem_cons, not_or] at h
    simp only [List.cons_append, splitB, splitB_app c r a h.2, show ¬ b = c from fun e => h.1 e.symm, if_false]
@[go_sem] theorem l1Cut_R (s : Str) (c : UInt8) (most : Int) (hs : s.length ≤ 1099511627776) (hm : s.length < most) : R S0 239 [.str s, .int .u8 c.toNat, .int .i64 most] = some ⟨[none, none, none], .slo 1 ((splitB c s).map .str)⟩ := by
  refine go239 rfl ?_; simp only [go_sem, ↓reduceIte, Nat.reduceAdd, Nat.reduceSub, Nat.reduceEqDiff, Nat.reduceLT, Nat.reduceLeDiff, Nat.reduceMul, Int.reduceNeg, Int.reduceToNat, Int.reduceEq, Int.reduceLT, Int.reduceLE, reduceCtorEq, Tryz.f239]
  refine ends_for s.length (by omega) (fun i (x : List Str × Nat) => mkSt [(0, .str s), (1, .int .u8 c.toNat), (2, .int .i64 most), (7, .own 0), (8, .int .i64 x.2), (9, .int .i64 i)] [.slo 1 (x.1.map .str)]) (fun i x => x.2 ≤ i ∧ x.1.length ≤ i ∧ (∀ j, x.2 ≤ j → j < i → s.getD j 0 ≠ c) ∧ splitB c s = x.1 ++ splitB c (s.drop x.2)) 0 ([], 0) (by omega) ⟨by simp, by simp, by intro j _ h; omega, by simp⟩ ?_ ?_
  · rintro i ⟨out, from'⟩ hi ⟨h1, h2, h3, h4⟩ hw ih
    simp only at h1 h2 h3 h4
    have hb : (out.length : Int) < most := by omega
    have b2 : (out.length + 1) * 16 ≤ 140737488355328 := by omega
    by_cases hc : s.getD i 0 = c
    · have e1 : cut s (from' : Int) (i : Int) = (s.drop from').take (i - from') := by simp [cut]
      have hcut : s.drop from' = (s.drop from').take (i - from') ++ c :: s.drop (i + 1) := by
        obtain ⟨y, hy, hg, hd⟩ := drop_get hi (0 : UInt8)
        rw [hg] at hc
        subst hc
        rw [← hd]
        have : s.drop i = (s.drop from').drop (i - from') := by rw [List.drop_drop]; congr 1; omega
        rw [this, List.take_append_drop]
      have hni : c ∉ (s.drop from').take (i - from') := by
        intro hm
        obtain ⟨k, hk, he⟩ := List.getElem_of_mem hm
        simp at hk
        rw [List.getElem_take, List.getElem_drop] at he
        refine h3 (from' + k) (by omega) (by omega) ?_
        rw [List.getD_eq_getElem?_getD, List.getElem?_eq_getElem (by omega)]
        simpa using he
      have z1 : (from' : Int) ≤ i := by omega
      have z2 : (i : Int) ≤ s.length := by omega
      simp only [go_sem, ↓reduceIte, Nat.reduceAdd, Nat.reduceSub, Nat.reduceEqDiff, Nat.reduceLT, Nat.reduceLeDiff, Nat.reduceMul, Int.reduceNeg, Int.reduceToNat, Int.reduceEq, Int.reduceLT, Int.reduceLE, reduceCtorEq, hi, hw, hc, hb, b2, z1, z2, e1]
      refine ih (out ++ [(s.drop from').take (i - from')], i + 1) ⟨by simp, by simp; omega, fun j h5 h6 => by simp only at h5; omega, ?_⟩
      have h5 : splitB c (s.drop from') = (s.drop from').take (i - from') :: splitB c (s.drop (i + 1)) := (congrArg (splitB c) hcut).trans (splitB_app _ _ _ hni)
      rw [h4, h5]
      simp
    · have z3 : ¬ ((s.getD i 0).toNat : Int) = (c.toNat : Int) := fun e => hc (UInt8.toNat_inj.1 (by omega))
      simp only [go_sem, ↓reduceIte, Nat.reduceAdd, Nat.reduceSub, Nat.reduceEqDiff, Nat.reduceLT, Nat.reduceLeDiff, Nat.reduceMul, Int.reduceNeg, Int.reduceToNat, Int.reduceEq, Int.reduceLT, Int.reduceLE, reduceCtorEq, hi, hw, z3, hb]
      refine ih (out, from') ⟨by simp only; omega, by simp only; omega, fun j h5 h6 => ?_, h4⟩
      by_cases e : j = i
      · subst e; exact hc
      · exact h3 j h5 (by omega)
  · rintro ⟨out, from'⟩ ⟨h1, h2, h3, h4⟩
    simp only at h1 h2 h3 h4
    have b2 : (out.length + 1) * 16 ≤ 140737488355328 := by omega
    have e1 : cut s (from' : Int) (s.length : Int) = s.drop from' := cut_drop s from'
    have hni : (s.drop from').count c = 0 := by
      rw [List.count_eq_zero]
      intro hm
      obtain ⟨k, hk, he⟩ := List.getElem_of_mem hm
      simp at hk
      rw [List.getElem_drop] at he
      refine h3 (from' + k) (by omega) (by omega) ?_
      rw [List.getD_eq_getElem?_getD, List.getElem?_eq_getElem (by omega)]
      simpa using he
    have z1 : (from' : Int) ≤ s.length := by omega
    simp only [go_sem, ↓reduceIte, Nat.reduceAdd, Nat.reduceSub, Nat.reduceEqDiff, Nat.reduceLT, Nat.reduceLeDiff, Nat.reduceMul, Int.reduceNeg, Int.reduceToNat, Int.reduceEq, Int.reduceLT, Int.reduceLE, reduceCtorEq, b2, z1, e1]
    rw [h4, split_none hni]
end Go.Proofs.YtmanllfmgghadaaGreatDoor.PVE
