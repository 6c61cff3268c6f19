/- The laws of pages. -/
import Derived.Test.YtjagjfjhinlgiaaT28
set_option linter.unusedVariables false
set_option linter.unusedSimpArgs false
set_option maxRecDepth 100000
namespace Go.Proofs.Ytjagjfjhinlgiaa.PVE
open PV Query
theorem pageS_len (l : List Hit) (a b : Int) : (pageS l a b).length ≤ l.length := by
  unfold pageS
  split
  · simp only [List.length_take, List.length_drop]; omega
  · simp
@[go_sem] theorem FnPage_R (b : Str) (hb : b.length ≤ 9223372036854775807) : R S0 3 [.sl (b.map bytePV)] = some ⟨[none], .bool true⟩ := by
  by_cases h : 1048576 < (b.length : Int)
  · refine go3 rfl ?_; simp only [go_sem, ↓reduceIte, Nat.reduceAdd, Nat.reduceSub, Nat.reduceEqDiff, Nat.reduceLT, Nat.reduceLeDiff, Nat.reduceMul, Int.reduceNeg, Int.reduceToNat, Int.reduceEq, Int.reduceLT, Int.reduceLE, reduceCtorEq, Try.f3, h]
  obtain ⟨r, hr, l, s, m, rfl, hl⟩ := drawPage_ex b
  have hlb : l.length ≤ 1099511627776 := by omega
  have hp : ∀ l : List Hit, l.length ≤ 8 → ∀ a c, (pageS l a c).length ≤ 1099511627776 := fun l hl a c => by have := pageS_len l a c; omega
  have p1 := hp l hl s m
  have p2 := hp l hl 0 s
  have p3 := hp l hl s 1000
  have p4 := hp (pageS l s 1000) (Nat.le_trans (pageS_len _ _ _) hl) 0 m
  have p5 : (pageS l s 1000).length ≤ 1099511627776 := p3
  by_cases c : s < 0 ∨ 1000 < s ∨ m < 0 ∨ 1000 < m
  · by_cases c1 : s < 0
    · refine go3 rfl ?_; simp only [go_sem, ↓reduceIte, Nat.reduceAdd, Nat.reduceSub, Nat.reduceEqDiff, Nat.reduceLT, Nat.reduceLeDiff, Nat.reduceMul, Int.reduceNeg, Int.reduceToNat, Int.reduceEq, Int.reduceLT, Int.reduceLE, reduceCtorEq, Try.f3, h, hr, hlb, p1, c1]
    by_cases c2 : 1000 < s
    · refine go3 rfl ?_; simp only [go_sem, ↓reduceIte, Nat.reduceAdd, Nat.reduceSub, Nat.reduceEqDiff, Nat.reduceLT, Nat.reduceLeDiff, Nat.reduceMul, Int.reduceNeg, Int.reduceToNat, Int.reduceEq, Int.reduceLT, Int.reduceLE, reduceCtorEq, Try.f3, h, hr, hlb, p1, c1, c2]
    by_cases c3 : m < 0
    · refine go3 rfl ?_; simp only [go_sem, ↓reduceIte, Nat.reduceAdd, Nat.reduceSub, Nat.reduceEqDiff, Nat.reduceLT, Nat.reduceLeDiff, Nat.reduceMul, Int.reduceNeg, Int.reduceToNat, Int.reduceEq, Int.reduceLT, Int.reduceLE, reduceCtorEq, Try.f3, h, hr, hlb, p1, c1, c2, c3]
    have c4 : 1000 < m := by omega
    refine go3 rfl ?_; simp only [go_sem, ↓reduceIte, Nat.reduceAdd, Nat.reduceSub, Nat.reduceEqDiff, Nat.reduceLT, Nat.reduceLeDiff, Nat.reduceMul, Int.reduceNeg, Int.reduceToNat, Int.reduceEq, Int.reduceLT, Int.reduceLE, reduceCtorEq, Try.f3, h, hr, hlb, p1, c1, c2, c3, c4]
  · have c1 : ¬ s < 0 := fun e => c (.inl e)
    have c2 : ¬ 1000 < s := fun e => c (.inr (.inl e))
    have c3 : ¬ m < 0 := fun e => c (.inr (.inr (.inl e)))
    have c4 : ¬ 1000 < m := fun e => c (.inr (.inr (.inr e)))
    have i1 : inB s 0 1000 = true := by simp [inB]; omega
    have i2 : inB m 0 1000 = true := by simp [inB]; omega
    have e1 : pageS l 0 s = l.take s.toNat := by rw [pageS, if_pos (by rw [i1]; rfl)]; rfl
    have e2 : pageS l s 1000 = l.drop s.toNat := by
      rw [pageS, if_pos (by rw [i1]; rfl)]
      exact List.take_of_length_le (by simp; omega)
    have e3 : pageS (l.drop s.toNat) 0 m = pageS l s m := by
      rw [pageS, if_pos (by rw [i2]; rfl), pageS, if_pos (by rw [i1, i2]; rfl)]; rfl
    have e4 : l.take s.toNat ++ l.drop s.toNat = l := List.take_append_drop _ _
    have e5 : ((pageS l s m).length : Int) ≤ m := by
      rw [pageS, if_pos (by rw [i1, i2]; rfl)]
      simp only [List.length_take, List.length_drop]; omega
    have p6 : (l.drop s.toNat).length ≤ 1099511627776 := by simp; omega
    have p7 : (l.take s.toNat).length ≤ 1099511627776 := by simp; omega
    refine go3 rfl ?_; simp only [go_sem, ↓reduceIte, Nat.reduceAdd, Nat.reduceSub, Nat.reduceEqDiff, Nat.reduceLT, Nat.reduceLeDiff, Nat.reduceMul, Int.reduceNeg, Int.reduceToNat, Int.reduceEq, Int.reduceLT, Int.reduceLE, reduceCtorEq, Try.f3, h, hr, hlb, p1, c1, c2, c3, c4, e1, e2, e3, e4, e5, p6, p7]
    omega
@[go_sem] theorem FnPageAll_R (b : Str) (hb : b.length ≤ 9223372036854775807) : R S0 4 [.sl (b.map bytePV)] = some ⟨[none], .bool true⟩ := by
  by_cases h : 1048576 < (b.length : Int)
  · refine go4 rfl ?_; simp only [go_sem, ↓reduceIte, Nat.reduceAdd, Nat.reduceSub, Nat.reduceEqDiff, Nat.reduceLT, Nat.reduceLeDiff, Nat.reduceMul, Int.reduceNeg, Int.reduceToNat, Int.reduceEq, Int.reduceLT, Int.reduceLE, reduceCtorEq, Try.f4, h]
  obtain ⟨r, hr, l, s, m, rfl, hl⟩ := drawPage_ex b
  have hlb : l.length ≤ 1099511627776 := by omega
  have e1 : pageS l 0 1000 = l := by
    rw [pageS, if_pos (by rfl)]
    exact List.take_of_length_le (by simp; omega)
  have e2 : pageS l 0 0 = [] := by rw [pageS, if_pos (by rfl)]; rfl
  have e3 : pageS l (l.length : Int) 5 = [] := by
    unfold pageS
    split
    · rw [Int.toNat_natCast, List.drop_length, List.take_nil]
    · rfl
  have e4 : pageS l (-1) 5 = [] := by rw [pageS, if_neg (by decide)]
  refine go4 rfl ?_; simp only [go_sem, ↓reduceIte, Nat.reduceAdd, Nat.reduceSub, Nat.reduceEqDiff, Nat.reduceLT, Nat.reduceLeDiff, Nat.reduceMul, Int.reduceNeg, Int.reduceToNat, Int.reduceEq, Int.reduceLT, Int.reduceLE, reduceCtorEq, Try.f4, h, hr, hlb, e1, e2, e3, e4]
end Go.Proofs.Ytjagjfjhinlgiaa.PVE
