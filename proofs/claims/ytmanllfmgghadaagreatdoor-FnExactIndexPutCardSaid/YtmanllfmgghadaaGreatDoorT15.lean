/- Documents: the reference's functions. -/
import Derived.Test.YtmanllfmgghadaaGreatDoorT14
import Derived.Test.YtmanllfmgghadaaGreatDoorTA
set_option linter.unusedVariables false
set_option linter.unusedSimpArgs false
set_option maxRecDepth 100000
namespace Go.Proofs.YtmanllfmgghadaaGreatDoor.PVE
open PV
theorem valF_take {s : Str} {i : Nat} (hi : i < s.length) : valF 0 (s.take (i + 1)) = valF 0 (s.take i) * 10 + ((s.getD i 0).toNat - 48) := by
  rw [List.take_add_one, List.getD_eq_getElem?_getD, List.getElem?_eq_getElem hi]
  simp only [Option.toList_some, Option.getD_some]
  rw [valF_snoc]
theorem valF_max {s : Str} (h : s.all digB = true) (h9 : s.length ≤ 9) : valF 0 s < 1000000000 := by
  have := valF_lt s 0 h
  have h2 : 10 ^ s.length ≤ 10 ^ 9 := Nat.pow_le_pow_right (by omega) h9
  omega
theorem figs_bound (s : Str) : -1 ≤ figs s ∧ figs s < 1000000000 := by
  unfold figs
  split
  · rename_i h
    have h1 := h.1
    simp only [figOk, Bool.and_eq_true] at h1
    have := valF_max h1.1.1 h.2
    omega
  · omega
@[go_sem] theorem l1Figures_R (s : Str) (hs : s.length ≤ 1099511627776) : R S0 238 [.str s] = some ⟨[none], .int .i64 (figs s)⟩ := by
  refine go238 rfl ?_; simp only [go_sem, ↓reduceIte, Nat.reduceAdd, Nat.reduceSub, Nat.reduceEqDiff, Nat.reduceLT, Nat.reduceLeDiff, Nat.reduceMul, Int.reduceNeg, Int.reduceToNat, Int.reduceEq, Int.reduceLT, Int.reduceLE, reduceCtorEq, Tryz.f238]
  refine ends_for s.length (by omega) (fun i (n : Nat) => mkSt [(0, .str s), (3, .int .i64 n), (4, .int .i64 i)] []) (fun i n => n = valF 0 (s.take i) ∧ (s.take i).all digB = true ∧ i ≤ 9) 0 0 (by omega) ⟨rfl, rfl, by omega⟩ ?_ ?_
  · rintro i n hi ⟨h1, h2, h3⟩ hw ih
    have hb := (s.getD i 0).toNat_lt
    have hn : n < 1000000000 := by rw [h1]; exact valF_max h2 (by simp; omega)
    have hx : s.getD i 0 ∈ s := by rw [List.getD_eq_getElem?_getD, List.getElem?_eq_getElem hi]; simp
    by_cases hd : digB (s.getD i 0) = true
    · by_cases h9 : i < 9
      · have hd' := hd
        simp only [digB, Bool.and_eq_true, decide_eq_true_eq] at hd'
        have e1 : IntKind.i64.wrap ((n : Int) * 10) = (n : Int) * 10 := wrap_in (by omega) (by omega)
        have e2 : IntKind.u8.wrap (((s.getD i 0).toNat : Int) - 48) = ((s.getD i 0).toNat : Int) - 48 := by
          show (((s.getD i 0).toNat : Int) - 48) % 256 = _
          omega
        have e3 : IntKind.i64.wrap (((s.getD i 0).toNat : Int) - 48) = ((s.getD i 0).toNat : Int) - 48 := wrap_in (by omega) (by omega)
        have e4 : IntKind.i64.wrap ((n : Int) * 10 + (((s.getD i 0).toNat : Int) - 48)) = ((n * 10 + ((s.getD i 0).toNat - 48) : Nat) : Int) := by rw [wrap_in (by omega) (by omega)]; omega
        have c1 : ¬ ((s.getD i 0).toNat : Int) < 48 := by omega
        have c2 : ¬ (57 : Int) < (s.getD i 0).toNat := by omega
        have c3 : ¬ (9 : Int) ≤ i := by omega
        simp only [go_sem, ↓reduceIte, Nat.reduceAdd, Nat.reduceSub, Nat.reduceEqDiff, Nat.reduceLT, Nat.reduceLeDiff, Nat.reduceMul, Int.reduceNeg, Int.reduceToNat, Int.reduceEq, Int.reduceLT, Int.reduceLE, reduceCtorEq, hi, hw, e1, e2, e3, e4, c1, c2, c3]
        refine ih _ ⟨by rw [valF_take hi, h1], ?_, by omega⟩
        rw [List.take_add_one, List.getD_eq_getElem?_getD, List.getElem?_eq_getElem hi] at *
        simp only [Option.toList_some, Option.getD_some] at *
        rw [List.all_append, h2]
        simp [hd]
      · have c3 : (9 : Int) ≤ i := by omega
        have hf : figs s = -1 := by
          unfold figs
          rw [if_neg (by rintro ⟨_, h⟩; omega)]
        by_cases c1 : ((s.getD i 0).toNat : Int) < 48
        · simp only [go_sem, ↓reduceIte, Nat.reduceAdd, Nat.reduceSub, Nat.reduceEqDiff, Nat.reduceLT, Nat.reduceLeDiff, Nat.reduceMul, Int.reduceNeg, Int.reduceToNat, Int.reduceEq, Int.reduceLT, Int.reduceLE, reduceCtorEq, hi, hw, c1, hf]
        · by_cases c2 : (57 : Int) < (s.getD i 0).toNat
          · simp only [go_sem, ↓reduceIte, Nat.reduceAdd, Nat.reduceSub, Nat.reduceEqDiff, Nat.reduceLT, Nat.reduceLeDiff, Nat.reduceMul, Int.reduceNeg, Int.reduceToNat, Int.reduceEq, Int.reduceLT, Int.reduceLE, reduceCtorEq, hi, hw, c1, c2, hf]
          · simp only [go_sem, ↓reduceIte, Nat.reduceAdd, Nat.reduceSub, Nat.reduceEqDiff, Nat.reduceLT, Nat.reduceLeDiff, Nat.reduceMul, Int.reduceNeg, Int.reduceToNat, Int.reduceEq, Int.reduceLT, Int.reduceLE, reduceCtorEq, hi, hw, c1, c2, c3, hf]
    · have hf : figs s = -1 := by
        unfold figs
        rw [if_neg]
        rintro ⟨h, _⟩
        simp only [figOk, Bool.and_eq_true] at h
        exact hd (List.all_eq_true.1 h.1.1 _ hx)
      by_cases c1 : ((s.getD i 0).toNat : Int) < 48
      · simp only [go_sem, ↓reduceIte, Nat.reduceAdd, Nat.reduceSub, Nat.reduceEqDiff, Nat.reduceLT, Nat.reduceLeDiff, Nat.reduceMul, Int.reduceNeg, Int.reduceToNat, Int.reduceEq, Int.reduceLT, Int.reduceLE, reduceCtorEq, hi, hw, c1, hf]
      · have c2 : (57 : Int) < (s.getD i 0).toNat := by
          simp only [digB, Bool.and_eq_true, decide_eq_true_eq, not_and] at hd
          omega
        simp only [go_sem, ↓reduceIte, Nat.reduceAdd, Nat.reduceSub, Nat.reduceEqDiff, Nat.reduceLT, Nat.reduceLeDiff, Nat.reduceMul, Int.reduceNeg, Int.reduceToNat, Int.reduceEq, Int.reduceLT, Int.reduceLE, reduceCtorEq, hi, hw, c1, c2, hf]
  · rintro n ⟨h1, h2, h3⟩
    rw [List.take_length] at h1 h2
    have hne : (s ≠ []) = (0 < s.length) := by rw [← List.length_pos_iff]
    by_cases h0 : s.length = 0
    · have hs0 : s = [] := List.length_eq_zero_iff.1 h0
      subst hs0
      have hf : figs [] = -1 := rfl
      simp only [go_sem, ↓reduceIte, Nat.reduceAdd, Nat.reduceSub, Nat.reduceEqDiff, Nat.reduceLT, Nat.reduceLeDiff, Nat.reduceMul, Int.reduceNeg, Int.reduceToNat, Int.reduceEq, Int.reduceLT, Int.reduceLE, reduceCtorEq, hf]
    · by_cases h4 : 1 < s.length
      · by_cases h5 : s.getD 0 0 = 48
        · have hf : figs s = -1 := by
            unfold figs
            rw [if_neg]
            rintro ⟨h, _⟩
            simp only [figOk, Bool.and_eq_true, Bool.not_eq_true', Bool.and_eq_false_iff, decide_eq_false_iff_not] at h
            rcases h.2 with h | h
            · exact h h4
            · exact h h5
          have z1 : ¬ (s.length : Int) = 0 := by omega
          have z2 : (1 : Int) < s.length := by omega
          have z3 : ((s.getD 0 0).toNat : Int) = 48 := by rw [h5]; rfl
          have z4 : (0 : Int) < s.length := by omega
          simp only [go_sem, ↓reduceIte, Nat.reduceAdd, Nat.reduceSub, Nat.reduceEqDiff, Nat.reduceLT, Nat.reduceLeDiff, Nat.reduceMul, Int.reduceNeg, Int.reduceToNat, Int.reduceEq, Int.reduceLT, Int.reduceLE, reduceCtorEq, z1, z2, z3, z4, hf]
        · have hf : figs s = n := by
            unfold figs
            rw [if_pos ⟨by simp only [figOk, h2, hne, h4, h5]; simp; omega, h3⟩, h1]
          have z1 : ¬ (s.length : Int) = 0 := by omega
          have z2 : (1 : Int) < s.length := by omega
          have z3 : ¬ ((s.getD 0 0).toNat : Int) = 48 := fun e => h5 (UInt8.toNat_inj.1 (show (s.getD 0 0).toNat = (48 : UInt8).toNat by show _ = 48; omega))
          have z4 : (0 : Int) < s.length := by omega
          simp only [go_sem, ↓reduceIte, Nat.reduceAdd, Nat.reduceSub, Nat.reduceEqDiff, Nat.reduceLT, Nat.reduceLeDiff, Nat.reduceMul, Int.reduceNeg, Int.reduceToNat, Int.reduceEq, Int.reduceLT, Int.reduceLE, reduceCtorEq, z1, z2, z3, z4, hf]
      · have hf : figs s = n := by
          unfold figs
          rw [if_pos ⟨by simp only [figOk, h2, hne, h4]; simp; omega, h3⟩, h1]
        have z1 : ¬ (s.length : Int) = 0 := by omega
        have z2 : ¬ (1 : Int) < s.length := by omega
        simp only [go_sem, ↓reduceIte, Nat.reduceAdd, Nat.reduceSub, Nat.reduceEqDiff, Nat.reduceLT, Nat.reduceLeDiff, Nat.reduceMul, Int.reduceNeg, Int.reduceToNat, Int.reduceEq, Int.reduceLT, Int.reduceLE, reduceCtorEq, z1, z2, hf]
@[go_sem] theorem l1Number_R (s : Str) (hs : s.length ≤ 1099511627776) : R S0 197 [.str s] = some ⟨[none], .tup [.int .i64 (numS s).1, .bool (numS s).2]⟩ := by
  have hd : (s.drop 1).length ≤ 1099511627776 := by simp; omega
  have hcut : cut s 1 (s.length : Int) = s.drop 1 := by simpa using cut_drop s 1
  by_cases h1 : 1 < s.length
  · have z2 : (1 : Int) < s.length := by omega
    have z4 : (0 : Int) < s.length := by omega
    have z5 : (1 : Int) ≤ s.length := by omega
    by_cases h2 : s.getD 0 0 = 45
    · have hb := figs_bound (s.drop 1)
      have hw : IntKind.i64.wrap (0 - figs (s.drop 1)) = -figs (s.drop 1) := by rw [wrap_in (by omega) (by omega)]; omega
      have e : numS s = (-figs (s.drop 1), decide (0 < figs (s.drop 1))) := by rw [numS, if_pos ⟨h1, h2⟩]
      have z3 : ((s.getD 0 0).toNat : Int) = 45 := by rw [h2]; rfl
      refine go197 rfl ?_; simp only [go_sem, ↓reduceIte, Nat.reduceAdd, Nat.reduceSub, Nat.reduceEqDiff, Nat.reduceLT, Nat.reduceLeDiff, Nat.reduceMul, Int.reduceNeg, Int.reduceToNat, Int.reduceEq, Int.reduceLT, Int.reduceLE, reduceCtorEq, Tryz.f197, z2, z3, z4, z5, hcut, hd, hw, e]
    · have e : numS s = (figs s, decide (0 ≤ figs s)) := by rw [numS, if_neg (by rintro ⟨_, h⟩; exact h2 h)]
      have z3 : ¬ ((s.getD 0 0).toNat : Int) = 45 := fun e => h2 (UInt8.toNat_inj.1 (show (s.getD 0 0).toNat = (45 : UInt8).toNat by show _ = 45; omega))
      refine go197 rfl ?_; simp only [go_sem, ↓reduceIte, Nat.reduceAdd, Nat.reduceSub, Nat.reduceEqDiff, Nat.reduceLT, Nat.reduceLeDiff, Nat.reduceMul, Int.reduceNeg, Int.reduceToNat, Int.reduceEq, Int.reduceLT, Int.reduceLE, reduceCtorEq, Tryz.f197, z2, z3, z4, hs, e]
  · have e : numS s = (figs s, decide (0 ≤ figs s)) := by rw [numS, if_neg (by rintro ⟨h, _⟩; exact h1 h)]
    have z2 : ¬ (1 : Int) < s.length := by omega
    refine go197 rfl ?_; simp only [go_sem, ↓reduceIte, Nat.reduceAdd, Nat.reduceSub, Nat.reduceEqDiff, Nat.reduceLT, Nat.reduceLeDiff, Nat.reduceMul, Int.reduceNeg, Int.reduceToNat, Int.reduceEq, Int.reduceLT, Int.reduceLE, reduceCtorEq, Tryz.f197, z2, hs, e]
theorem splitB_app (c : UInt8) (r : Str) : ∀ a : Str, c ∉ a → splitB c (a ++ c :: r) = a :: splitB c r
  | [], _ => by simp [splitB]
  | b :: a, h => by
    simp only [List.mem_cons, not_or] at h
    simp only [List.cons_append, splitB, splitB_app c r a h.2, show ¬ b = c from fun e => h.1 e.symm, if_false]
@[go_sem] theorem l1Cut_R (s : Str) (c : UInt8) (most : Int) (hs : s.length ≤ 1099511627776) (hm : s.length < most) : R S0 239 [.str s, .int .u8 c.toNat, .int .i64 most] = some ⟨[none, none, none], .slo 1 ((splitB c s).map .str)⟩ := by
  refine go239 rfl ?_; simp only [go_sem, ↓reduceIte, Nat.reduceAdd, Nat.reduceSub, Nat.reduceEqDiff, Nat.reduceLT, Nat.reduceLeDiff, Nat.reduceMul, Int.reduceNeg, Int.reduceToNat, Int.reduceEq, Int.reduceLT, Int.reduceLE, reduceCtorEq, Tryz.f239]
  refine ends_for s.length (by omega) (fun i (x : List Str × Nat) => mkSt [(0, .str s), (1, .int .u8 c.toNat), (2, .int .i64 most), (7, .own 0), (8, .int .i64 x.2), (9, .int .i64 i)] [.slo 1 (x.1.map .str)]) (fun i x => x.2 ≤ i ∧ x.1.length ≤ i ∧ (∀ j, x.2 ≤ j → j < i → s.getD j 0 ≠ c) ∧ splitB c s = x.1 ++ splitB c (s.drop x.2)) 0 ([], 0) (by omega) ⟨by simp, by simp, by intro j _ h; omega, by simp⟩ ?_ ?_
  · rintro i ⟨out, from'⟩ hi ⟨h1, h2, h3, h4⟩ hw ih
    simp only at h1 h2 h3 h4
    have hb : (out.length : Int) < most := by omega
    have b2 : (out.length + 1) * 16 ≤ 140737488355328 := by omega
    by_cases hc : s.getD i 0 = c
    · have e1 : cut s (from' : Int) (i : Int) = (s.drop from').take (i - from') := by simp [cut]
      have hcut : s.drop from' = (s.drop from').take (i - from') ++ c :: s.drop (i + 1) := by
        obtain ⟨y, hy, hg, hd⟩ := drop_get hi (0 : UInt8)
        rw [hg] at hc
        subst hc
        rw [← hd]
        have : s.drop i = (s.drop from').drop (i - from') := by rw [List.drop_drop]; congr 1; omega
        rw [this, List.take_append_drop]
      have hni : c ∉ (s.drop from').take (i - from') := by
        intro hm
        obtain ⟨k, hk, he⟩ := List.getElem_of_mem hm
        simp at hk
        rw [List.getElem_take, List.getElem_drop] at he
        refine h3 (from' + k) (by omega) (by omega) ?_
        rw [List.getD_eq_getElem?_getD, List.getElem?_eq_getElem (by omega)]
        simpa using he
      have z1 : (from' : Int) ≤ i := by omega
      have z2 : (i : Int) ≤ s.length := by omega
      simp only [go_sem, ↓reduceIte, Nat.reduceAdd, Nat.reduceSub, Nat.reduceEqDiff, Nat.reduceLT, Nat.reduceLeDiff, Nat.reduceMul, Int.reduceNeg, Int.reduceToNat, Int.reduceEq, Int.reduceLT, Int.reduceLE, reduceCtorEq, hi, hw, hc, hb, b2, z1, z2, e1]
      refine ih (out ++ [(s.drop from').take (i - from')], i + 1) ⟨by simp, by simp; omega, fun j h5 h6 => by simp only at h5; omega, ?_⟩
      have h5 : splitB c (s.drop from') = (s.drop from').take (i - from') :: splitB c (s.drop (i + 1)) := (congrArg (splitB c) hcut).trans (splitB_app _ _ _ hni)
      rw [h4, h5]
      simp
    · have z3 : ¬ ((s.getD i 0).toNat : Int) = (c.toNat : Int) := fun e => hc (UInt8.toNat_inj.1 (by omega))
      simp only [go_sem, ↓reduceIte, Nat.reduceAdd, Nat.reduceSub, Nat.reduceEqDiff, Nat.reduceLT, Nat.reduceLeDiff, Nat.reduceMul, Int.reduceNeg, Int.reduceToNat, Int.reduceEq, Int.reduceLT, Int.reduceLE, reduceCtorEq, hi, hw, z3, hb]
      refine ih (out, from') ⟨by simp only; omega, by simp only; omega, fun j h5 h6 => ?_, h4⟩
      by_cases e : j = i
      · subst e; exact hc
      · exact h3 j h5 (by omega)
  · rintro ⟨out, from'⟩ ⟨h1, h2, h3, h4⟩
    simp only at h1 h2 h3 h4
    have b2 : (out.length + 1) * 16 ≤ 140737488355328 := by omega
    have e1 : cut s (from' : Int) (s.length : Int) = s.drop from' := cut_drop s from'
    have hni : (s.drop from').count c = 0 := by
      rw [List.count_eq_zero]
      intro hm
      obtain ⟨k, hk, he⟩ := List.getElem_of_mem hm
      simp at hk
      rw [List.getElem_drop] at he
      refine h3 (from' + k) (by omega) (by omega) ?_
      rw [List.getD_eq_getElem?_getD, List.getElem?_eq_getElem (by omega)]
      simpa using he
    have z1 : (from' : Int) ≤ s.length := by omega
    simp only [go_sem, ↓reduceIte, Nat.reduceAdd, Nat.reduceSub, Nat.reduceEqDiff, Nat.reduceLT, Nat.reduceLeDiff, Nat.reduceMul, Int.reduceNeg, Int.reduceToNat, Int.reduceEq, Int.reduceLT, Int.reduceLE, reduceCtorEq, b2, z1, e1]
    rw [h4, split_none hni]
@[go_sem] theorem l2Text_R (s : Str) (hs : s.length ≤ 1099511627776) : R S0 199 [.str s] = some ⟨[none], .bool (textOk s)⟩ := by
  refine go199 rfl ?_; simp only [go_sem, ↓reduceIte, Nat.reduceAdd, Nat.reduceSub, Nat.reduceEqDiff, Nat.reduceLT, Nat.reduceLeDiff, Nat.reduceMul, Int.reduceNeg, Int.reduceToNat, Int.reduceEq, Int.reduceLT, Int.reduceLE, reduceCtorEq, Tryz.f199]
  refine ends_for s.length (by omega) (fun i _ => mkSt [(0, .str s), (3, .int .i64 i)] []) (fun i _ => (s.drop i).all charOk = s.all charOk) 0 () (by omega) rfl ?_ ?_
  · intro i _ hi hI hw ih
    rw [drop_getD hi 0, List.all_cons] at hI
    simp only [go_sem, ↓reduceIte, Nat.reduceAdd, Nat.reduceSub, Nat.reduceEqDiff, Nat.reduceLT, Nat.reduceLeDiff, Nat.reduceMul, Int.reduceNeg, Int.reduceToNat, Int.reduceEq, Int.reduceLT, Int.reduceLE, reduceCtorEq, hi, hw, byteI]
    have ih := ih ()
    generalize Ends S0 _ _ _ = Q at ih ⊢
    grind [textOk, charOk]
  · intro _ hI
    rw [List.drop_length, List.all_nil] at hI
    simp only [go_sem, ↓reduceIte, Nat.reduceAdd, Nat.reduceSub, Nat.reduceEqDiff, Nat.reduceLT, Nat.reduceLeDiff, Nat.reduceMul, Int.reduceNeg, Int.reduceToNat, Int.reduceEq, Int.reduceLT, Int.reduceLE, reduceCtorEq]
    rw [textOk, ← hI, Bool.true_and]
    simp; omega
theorem foldS_len : ∀ (m l : List Str), (m.foldl addS l).length ≤ l.length + m.length
  | [], l => by simp
  | t :: m, l => by
    have h1 := foldS_len m (addS l t)
    have h2 := addS_len l t
    rw [List.foldl_cons, List.length_cons]
    omega
def tagsS (s : Str) : List Str × Bool := if (splitB 44 s).all nameOk = true then ((splitB 44 s).foldl addS [], decide ((splitB 44 s).length ≤ 4)) else ([], false)
theorem tagsS_ok (s : Str) : (tagsS s).2 = tagsOk s := by
  unfold tagsS tagsOk
  split
  · rename_i h; rw [h]; simp
  · rename_i h
    rw [Bool.not_eq_true] at h
    rw [h]; rfl
@[go_sem] theorem l2Tags_R (s : Str) (hs : s.length ≤ 549755813888) : R S0 198 [.str s] = some ⟨[none], .tup [.slo 1 ((tagsS s).1.map .str), .bool (tagsS s).2]⟩ := by
  obtain ⟨h1, h2⟩ := splitB_len 44 s
  have h3 := List.count_le_length (l := s) (a := 44)
  have hs2 : s.length ≤ 1099511627776 := by omega
  have hw1 : IntKind.i64.wrap ((s.length : Int) + 1) = (s.length : Int) + 1 := wrap_in (by omega) (by omega)
  have hm : (s.length : Int) < (s.length : Int) + 1 := by omega
  have hc := l1Cut_R s 44 ((s.length : Int) + 1) hs2 hm
  rw [show (((44 : UInt8).toNat : Nat) : Int) = 44 from rfl] at hc
  refine go198 rfl ?_; simp only [go_sem, ↓reduceIte, Nat.reduceAdd, Nat.reduceSub, Nat.reduceEqDiff, Nat.reduceLT, Nat.reduceLeDiff, Nat.reduceMul, Int.reduceNeg, Int.reduceToNat, Int.reduceEq, Int.reduceLT, Int.reduceLE, reduceCtorEq, Tryz.f198, hw1, hc]
  refine ends_for (splitB 44 s).length (by omega) (fun i (x : List Str) => mkSt [(4, .own 0), (5, .own 1), (6, .int .i64 i)] [.slo 1 (x.map .str), .slo 1 ((splitB 44 s).map .str)]) (fun i x => ((splitB 44 s).take i).all nameOk = true ∧ x = ((splitB 44 s).take i).foldl addS []) 0 [] (by omega) ⟨rfl, rfl⟩ ?_ ?_
  · rintro i x hi ⟨hI, hX⟩ hw ih
    obtain ⟨c, hx, hg, hdr⟩ := drop_get hi default
    have hcm := List.mem_of_getElem? hx
    have hcl := h2 c hcm
    have hcb : c.length ≤ 1099511627776 := by omega
    have hxl : x.length ≤ 1099511627776 := by
      have := foldS_len ((splitB 44 s).take i) []
      rw [← hX] at this
      simp at this
      omega
    have htk : (splitB 44 s).take (i + 1) = (splitB 44 s).take i ++ [c] := by rw [List.take_add_one, hx]; rfl
    cases hn : nameOk c with
    | true =>
      simp only [go_sem, ↓reduceIte, Nat.reduceAdd, Nat.reduceSub, Nat.reduceEqDiff, Nat.reduceLT, Nat.reduceLeDiff, Nat.reduceMul, Int.reduceNeg, Int.reduceToNat, Int.reduceEq, Int.reduceLT, Int.reduceLE, reduceCtorEq, hi, hw, hg, hx, hcb, hn, hxl]
      exact ih _ ⟨by rw [htk, List.all_append, hI]; simp [hn], by rw [htk, List.foldl_append, ← hX, List.foldl_cons, List.foldl_nil]⟩
    | false =>
      have hf : tagsS s = ([], false) := by
        rw [tagsS, if_neg]
        intro h
        rw [List.all_eq_true.1 h c hcm] at hn
        cases hn
      simp only [go_sem, ↓reduceIte, Nat.reduceAdd, Nat.reduceSub, Nat.reduceEqDiff, Nat.reduceLT, Nat.reduceLeDiff, Nat.reduceMul, Int.reduceNeg, Int.reduceToNat, Int.reduceEq, Int.reduceLT, Int.reduceLE, reduceCtorEq, hi, hw, hg, hx, hcb, hn, hf]
  · rintro x ⟨hI, hX⟩
    rw [List.take_length] at hI hX
    have hf : tagsS s = ((splitB 44 s).foldl addS [], decide ((splitB 44 s).length ≤ 4)) := by rw [tagsS, if_pos hI]
    simp only [go_sem, ↓reduceIte, Nat.reduceAdd, Nat.reduceSub, Nat.reduceEqDiff, Nat.reduceLT, Nat.reduceLeDiff, Nat.reduceMul, Int.reduceNeg, Int.reduceToNat, Int.reduceEq, Int.reduceLT, Int.reduceLE, reduceCtorEq, hf, hX]
    exact decide_eq_decide.2 (by omega)
def cellS (k : Int) (s : Str) : Bool := textOk s && (decide (k = 1) || (decide (k = 2) && (numS s).2) || (decide (k = 3) && (tagsS s).2))
@[go_sem] theorem l2Cell_R (f : Field) (s : Str) (hs : s.length ≤ 549755813888) : R S0 144 [.agg [.str f.name, .int .i64 f.kind, .int .i64 f.weight], .str s] = some ⟨[none, none], .bool (cellS f.kind s)⟩ := by
  have hs2 : s.length ≤ 1099511627776 := by omega
  refine go144 rfl ?_; simp only [go_sem, ↓reduceIte, Nat.reduceAdd, Nat.reduceSub, Nat.reduceEqDiff, Nat.reduceLT, Nat.reduceLeDiff, Nat.reduceMul, Int.reduceNeg, Int.reduceToNat, Int.reduceEq, Int.reduceLT, Int.reduceLE, reduceCtorEq, Tryz.f144, hs, hs2]
  rw [cellS]
  cases textOk s <;> cases (numS s).2 <;> cases (tagsS s).2 <;> grind
@[go_sem] theorem l2Form_R (d : Doc) (hd : DSm d) : R S0 145 [.agg [.str d.key, .sl (d.cells.map Cell.pv)]] = some ⟨[none], .bool (docForm d)⟩ := by
  obtain ⟨hk, hl, hc⟩ := hd
  refine go145 rfl ?_; simp only [go_sem, ↓reduceIte, Nat.reduceAdd, Nat.reduceSub, Nat.reduceEqDiff, Nat.reduceLT, Nat.reduceLeDiff, Nat.reduceMul, Int.reduceNeg, Int.reduceToNat, Int.reduceEq, Int.reduceLT, Int.reduceLE, reduceCtorEq, Tryz.f145]
  refine ends_for d.cells.length (by omega) (fun i _ => mkSt [(1, .addr 0 0 0), (3, .int .i64 i)] [.pto [.str d.key, .sl (d.cells.map Cell.pv)]]) (fun i _ => formL (lastN d.cells i) (d.cells.drop i) = formL none d.cells) 0 () (by omega) rfl ?_ ?_
  · intro i _ hi hI hw ih
    obtain ⟨c, hx, hg, hdr⟩ := drop_get hi default
    obtain ⟨h1, h2'⟩ := hc c (List.mem_of_getElem? hx)
    have h2 : c.text.length ≤ 1099511627776 := by omega
    rw [hdr] at hI
    have hln : lastN d.cells (i + 1) = some c.name := by rw [lastN, hg]
    have ih := ih ()
    rw [hln] at ih
    cases i with
    | zero =>
      simp only [lastN, formL] at hI
      rw [show ((0 : Nat) : Int) = 0 from rfl] at *
      simp only [go_sem, ↓reduceIte, Nat.reduceAdd, Nat.reduceSub, Nat.reduceEqDiff, Nat.reduceLT, Nat.reduceLeDiff, Nat.reduceMul, Int.reduceNeg, Int.reduceToNat, Int.reduceEq, Int.reduceLT, Int.reduceLE, reduceCtorEq, hi, hw, hg, h1, h2]
      generalize Ends S0 _ _ _ = Q at ih ⊢
      grind [docForm]
    | succ j =>
      simp only [lastN, formL] at hI
      have hz : (0 : Int) < ((j + 1 : Nat) : Int) := by omega
      have hw1 : IntKind.i64.wrap (((j + 1 : Nat) : Int) - 1) = (j : Int) := by rw [wrap_in (by omega) (by omega)]; omega
      have hj : j < d.cells.length := by omega
      simp only [go_sem, ↓reduceIte, Nat.reduceAdd, Nat.reduceSub, Nat.reduceEqDiff, Nat.reduceLT, Nat.reduceLeDiff, Nat.reduceMul, Int.reduceNeg, Int.reduceToNat, Int.reduceEq, Int.reduceLT, Int.reduceLE, reduceCtorEq, hi, hw, hg, h1, h2, hz, hw1, hj]
      generalize Ends S0 _ _ _ = Q at ih ⊢
      grind [docForm]
  · intro _ hI
    rw [List.drop_length, formL] at hI
    simp only [go_sem, ↓reduceIte, Nat.reduceAdd, Nat.reduceSub, Nat.reduceEqDiff, Nat.reduceLT, Nat.reduceLeDiff, Nat.reduceMul, Int.reduceNeg, Int.reduceToNat, Int.reduceEq, Int.reduceLT, Int.reduceLE, reduceCtorEq, hk]
    rw [docForm, ← hI]
    cases nameOk d.key <;> simp; omega
theorem formL_text : ∀ (l : List Cell) (p : Option Str), formL p l = true → ∀ c ∈ l, textOk c.text = true ∧ nameOk c.name = true
  | [], _, _, c, h => by simp at h
  | x :: l, p, h, c, hc => by
    simp only [formL, Bool.and_eq_true] at h
    rcases List.mem_cons.1 hc with rfl | hc
    · exact ⟨h.1.1.2, h.1.1.1⟩
    · exact formL_text l _ h.2 c hc
theorem docOk_cells {l : List Field} {d : Doc} : docOk l d = (d.cells.all (fun c => cellS (fieldOf l c.name).kind c.text) && (fieldsOk l && docForm d)) := by
  unfold docOk
  cases fieldsOk l with
  | false => simp
  | true =>
  cases hf : docForm d with
  | false => simp
  | true =>
    simp only [Bool.true_and, Bool.and_true]
    simp only [docForm, Bool.and_eq_true] at hf
    have ht := formL_text _ _ hf.1.1
    rw [Bool.eq_iff_iff, List.all_eq_true, List.all_eq_true]
    have key : ∀ c ∈ d.cells, cellOk l c = cellS (fieldOf l c.name).kind c.text := by
      intro c hc
      rw [cellOk, cellS, (ht c hc).1, tagsS_ok, num_same]
      cases h : (numS c.text).2 <;> simp [h]
    exact ⟨fun h c hc => (key c hc) ▸ h c hc, fun h c hc => (key c hc).symm ▸ h c hc⟩
@[go_sem] theorem specDocOk_R (l : List Field) (d : Doc) (hl : FSm l) (hd : DSm d) : R S0 91 [.sl (l.map Field.pv), .agg [.str d.key, .sl (d.cells.map Cell.pv)]] = some ⟨[none, none], .bool (docOk l d)⟩ := by
  obtain ⟨hk, hcl, hc⟩ := id hd
  obtain ⟨hll, _⟩ := id hl
  refine go91 rfl ?_; simp only [go_sem, ↓reduceIte, Nat.reduceAdd, Nat.reduceSub, Nat.reduceEqDiff, Nat.reduceLT, Nat.reduceLeDiff, Nat.reduceMul, Int.reduceNeg, Int.reduceToNat, Int.reduceEq, Int.reduceLT, Int.reduceLE, reduceCtorEq, Tryz.f91]
  refine ends_for d.cells.length (by omega) (fun i _ => mkSt [(0, .sl (l.map Field.pv)), (3, .addr 0 0 0), (5, .int .i64 i)] [.pto [.str d.key, .sl (d.cells.map Cell.pv)]]) (fun i _ => (d.cells.drop i).all (fun c => cellS (fieldOf l c.name).kind c.text) = d.cells.all (fun c => cellS (fieldOf l c.name).kind c.text)) 0 () (by omega) rfl ?_ ?_
  · intro i _ hi hI hw ih
    obtain ⟨c, hx, hg, hdr⟩ := drop_get hi default
    obtain ⟨h3, h4⟩ := hc c (List.mem_of_getElem? hx)
    rw [hdr, List.all_cons] at hI
    have ih := ih ()
    rcases fieldIx_cases l c.name with ⟨f1, f2, f3⟩ | ⟨f1, f2, f3, f4⟩
    · have hf : docOk l d = false := by
        have hz : cellS (fieldOf l c.name).kind c.text = false := by rw [f3, cellS]; simp
        rw [docOk_cells, ← hI, hz]; simp
      simp only [go_sem, ↓reduceIte, Nat.reduceAdd, Nat.reduceSub, Nat.reduceEqDiff, Nat.reduceLT, Nat.reduceLeDiff, Nat.reduceMul, Int.reduceNeg, Int.reduceToNat, Int.reduceEq, Int.reduceLT, Int.reduceLE, reduceCtorEq, hi, hw, hg, h3, hll, f1, hf]
    · have f5 : ¬ fieldIx l c.name < 0 := by omega
      have f6 : fieldIx l c.name < (l.length : Int) := by omega
      cases hz : cellS (fieldOf l c.name).kind c.text with
      | true =>
        simp only [go_sem, ↓reduceIte, Nat.reduceAdd, Nat.reduceSub, Nat.reduceEqDiff, Nat.reduceLT, Nat.reduceLeDiff, Nat.reduceMul, Int.reduceNeg, Int.reduceToNat, Int.reduceEq, Int.reduceLT, Int.reduceLE, reduceCtorEq, hi, hw, hg, h3, h4, hll, f1, f4, f5, f6, f2, hz]
        exact ih (by rw [← hI, hz]; rfl)
      | false =>
        have hf : docOk l d = false := by rw [docOk_cells, ← hI, hz]; simp
        simp only [go_sem, ↓reduceIte, Nat.reduceAdd, Nat.reduceSub, Nat.reduceEqDiff, Nat.reduceLT, Nat.reduceLeDiff, Nat.reduceMul, Int.reduceNeg, Int.reduceToNat, Int.reduceEq, Int.reduceLT, Int.reduceLE, reduceCtorEq, hi, hw, hg, h3, h4, hll, f1, f4, f5, f6, f2, hz, hf]
  · intro _ hI
    rw [List.drop_length, List.all_nil] at hI
    simp only [go_sem, ↓reduceIte, Nat.reduceAdd, Nat.reduceSub, Nat.reduceEqDiff, Nat.reduceLT, Nat.reduceLeDiff, Nat.reduceMul, Int.reduceNeg, Int.reduceToNat, Int.reduceEq, Int.reduceLT, Int.reduceLE, reduceCtorEq, hl, hd]
    rw [docOk_cells, ← hI, Bool.true_and]
    cases fieldsOk l <;> simp
theorem kindAny {l : List Field} {n : Str} {k : Int} (hk : k ≠ 0) (h : (fieldOf l n).kind = k) : (l.any fun f => f.name = n) = true := by
  rcases fieldIx_cases l n with ⟨_, _, h3⟩ | ⟨_, _, h3, _⟩
  · rw [h3] at h; exact absurd h.symm hk
  · exact h3
end Go.Proofs.YtmanllfmgghadaaGreatDoor.PVE
