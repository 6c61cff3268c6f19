/- QueryTerms: its laws. -/
import Derived.Test.YthmoogdjppcgbabDoorT10
set_option linter.unusedVariables false
set_option linter.unusedSimpArgs false
set_option maxRecDepth 100000
namespace Go.Proofs.YthmoogdjppcgbabDoor.PVE
open PV Query
@[go_sem] theorem eqStringS_R (l : List Str) (hl : l.length ≤ 1099511627776) : R S0 16 [.sl (l.map .str), .sl (l.map .str)] = some ⟨[none, none], .bool true⟩ := by
  refine go16 rfl ?_; simp only [go_sem, ↓reduceIte, Nat.reduceAdd, Nat.reduceSub, Nat.reduceEqDiff, Nat.reduceLT, Nat.reduceLeDiff, Nat.reduceMul, Int.reduceNeg, Int.reduceToNat, Int.reduceEq, Int.reduceLT, Int.reduceLE, reduceCtorEq, Tryd.f16]
  refine ends_for l.length (by omega) (fun i _ => mkSt [(0, .sl (l.map .str)), (1, .sl (l.map .str)), (5, .int .i64 i)] []) (fun i _ => True) 0 () (by omega) trivial ?_ ?_
  · rintro i _ hi - hw ih
    obtain ⟨y, hy, hg, hd⟩ := drop_get hi default
    simp only [go_sem, ↓reduceIte, Nat.reduceAdd, Nat.reduceSub, Nat.reduceEqDiff, Nat.reduceLT, Nat.reduceLeDiff, Nat.reduceMul, Int.reduceNeg, Int.reduceToNat, Int.reduceEq, Int.reduceLT, Int.reduceLE, reduceCtorEq, hi, hw, hg]
    exact ih () trivial
  · rintro _ -
    simp only [go_sem, ↓reduceIte, Nat.reduceAdd, Nat.reduceSub, Nat.reduceEqDiff, Nat.reduceLT, Nat.reduceLeDiff, Nat.reduceMul, Int.reduceNeg, Int.reduceToNat, Int.reduceEq, Int.reduceLT, Int.reduceLE, reduceCtorEq]
/-- The marks from k on. -/
noncomputable def mkT (k n : Nat) : List Str := (List.range n).map fun i => mT (k + i)
theorem mkT_len (k n : Nat) : (mkT k n).length = n := by simp [mkT]
theorem mkT_succ (k n : Nat) : mkT k (n + 1) = mkT k n ++ [mT (k + n)] := by simp [mkT, List.range_succ]
theorem mkT_get (k : Nat) {n i : Nat} (h : i < n) : (mkT k n).getD i default = mT (k + i) := by simp [mkT, h]
@[go_sem] theorem markStringS_R (l : List Str) (k : Nat) (hl : k + l.length ≤ 1099511627776) : R S0 18 [.slo 1 (l.map .str), .int .i64 k] = some ⟨[some (.slo 1 ((mkT k l.length).map .str)), none], .int .i64 (k + l.length : Nat)⟩ := by
  refine go18 rfl ?_; simp only [go_sem, ↓reduceIte, Nat.reduceAdd, Nat.reduceSub, Nat.reduceEqDiff, Nat.reduceLT, Nat.reduceLeDiff, Nat.reduceMul, Int.reduceNeg, Int.reduceToNat, Int.reduceEq, Int.reduceLT, Int.reduceLE, reduceCtorEq, Tryd.f18]
  refine ends_for l.length (by omega) (fun i (x : List Str) => mkSt [(0, .own 0), (1, .int .i64 (k + i : Nat)), (5, .int .i64 i), (1000000, .own 0)] [.slo 1 (x.map .str)]) (fun i x => x = mkT k i ++ l.drop i) 0 l (by omega) (by simp [mkT]) ?_ ?_
  · rintro i x hi hI hw ih
    have hxl : x.length = l.length := by rw [hI]; simp [mkT_len]; omega
    have hix : i < x.length := by omega
    have hxi : x[i]? = some (x[i]'hix) := List.getElem?_eq_getElem hix
    have w1 : IntKind.i64.wrap (((k + i : Nat) : Int) + 1) = ((k + (i + 1) : Nat) : Int) := by rw [wrap_in (by omega) (by omega)]; omega
    have b1 : k + i ≤ 1099511627776 := by omega
    simp only [go_sem, ↓reduceIte, Nat.reduceAdd, Nat.reduceSub, Nat.reduceEqDiff, Nat.reduceLT, Nat.reduceLeDiff, Nat.reduceMul, Int.reduceNeg, Int.reduceToNat, Int.reduceEq, Int.reduceLT, Int.reduceLE, reduceCtorEq, hi, hw, hxl, hix, hxi, w1, b1]
    refine ih _ ?_
    obtain ⟨y, _, _, hd⟩ := drop_get hi default
    rw [hI, List.set_append_right _ _ (by rw [mkT_len]; omega), mkT_len, Nat.sub_self, mkT_succ, hd]
    simp
  · rintro x hI
    rw [List.drop_length, List.append_nil] at hI
    have hxl : x.length = l.length := by rw [hI, mkT_len]
    simp only [go_sem, ↓reduceIte, Nat.reduceAdd, Nat.reduceSub, Nat.reduceEqDiff, Nat.reduceLT, Nat.reduceLeDiff, Nat.reduceMul, Int.reduceNeg, Int.reduceToNat, Int.reduceEq, Int.reduceLT, Int.reduceLE, reduceCtorEq, hxl]
    rw [hI]
@[go_sem] theorem heldStringS_R (n k : Nat) (hl : k + n ≤ 1099511627776) : R S0 19 [.sl ((mkT k n).map .str), .int .i64 k] = some ⟨[none, none], .int .i64 (k + n : Nat)⟩ := by
  have hml := mkT_len k n
  refine go19 rfl ?_; simp only [go_sem, ↓reduceIte, Nat.reduceAdd, Nat.reduceSub, Nat.reduceEqDiff, Nat.reduceLT, Nat.reduceLeDiff, Nat.reduceMul, Int.reduceNeg, Int.reduceToNat, Int.reduceEq, Int.reduceLT, Int.reduceLE, reduceCtorEq, Tryd.f19]
  refine ends_for n (by omega) (fun i _ => mkSt [(0, .sl ((mkT k n).map .str)), (1, .int .i64 (k + i : Nat)), (5, .int .i64 i)] []) (fun i _ => True) 0 () (by omega) trivial ?_ ?_
  · rintro i _ hi - hw ih
    have hg := mkT_get k hi
    have w1 : IntKind.i64.wrap (((k + i : Nat) : Int) + 1) = ((k + (i + 1) : Nat) : Int) := by rw [wrap_in (by omega) (by omega)]; omega
    have b1 : k + i ≤ 1099511627776 := by omega
    simp only [go_sem, ↓reduceIte, Nat.reduceAdd, Nat.reduceSub, Nat.reduceEqDiff, Nat.reduceLT, Nat.reduceLeDiff, Nat.reduceMul, Int.reduceNeg, Int.reduceToNat, Int.reduceEq, Int.reduceLT, Int.reduceLE, reduceCtorEq, hi, hw, hml, hg, w1, b1]
    exact ih () trivial
  · rintro _ -
    simp only [go_sem, ↓reduceIte, Nat.reduceAdd, Nat.reduceSub, Nat.reduceEqDiff, Nat.reduceLT, Nat.reduceLeDiff, Nat.reduceMul, Int.reduceNeg, Int.reduceToNat, Int.reduceEq, Int.reduceLT, Int.reduceLE, reduceCtorEq, hml]
theorem fnExactQueryTerms_R (q : Query) (hq : q.Lm) : R S0 5 [.agg [.int .i64 q.kind, .str q.field, .str q.text, .int .i64 q.low, .int .i64 q.high, .sl (q.parts.map pv)]] = some ⟨[none], .bool true⟩ := by
  have s2 := szQuery_R q hq 1048576 (by omega) (by omega)
  by_cases c2 : szQ q 1048576 < 0
  · refine go5 rfl ?_; simp only [go_sem, ↓reduceIte, Nat.reduceAdd, Nat.reduceSub, Nat.reduceEqDiff, Nat.reduceLT, Nat.reduceLeDiff, Nat.reduceMul, Int.reduceNeg, Int.reduceToNat, Int.reduceEq, Int.reduceLT, Int.reduceLE, reduceCtorEq, Tryd.f5, s2, c2]
  have t2 : tot q ≤ 1048576 := by unfold szQ at c2; split at c2 <;> rename_i h <;> omega
  have hs := sm_of_tot q (by omega)
  have hn1 := nodes_tot q
  rw [nodes_eq] at hn1
  have k1 := toQuery_R q hs
  have k2 := eqQuery_R q hs
  have k4 := markQuery_R q hs 1 (by omega)
  have hql := qTerms_len q
  have hqb : (qTerms q).length ≤ 1099511627776 := by omega
  have k5 := markStringS_R (qTerms q) 1 (by omega)
  have k6 := heldStringS_R (qTerms q).length 1 (by omega)
  rw [cast_one] at k4 k5 k6
  have hqt : (if okQ 4 q = true then termsS q [] else []) = qTerms q := rfl
  have b1 : ¬ ((1 + 5 * nodesL q.parts : Nat) : Int) < 0 := by omega
  have b2 : ¬ ((1 + (qTerms q).length : Nat) : Int) < 0 := by omega
  refine go5 rfl ?_; simp only [go_sem, ↓reduceIte, Nat.reduceAdd, Nat.reduceSub, Nat.reduceEqDiff, Nat.reduceLT, Nat.reduceLeDiff, Nat.reduceMul, Int.reduceNeg, Int.reduceToNat, Int.reduceEq, Int.reduceLT, Int.reduceLE, reduceCtorEq, Tryd.f5, s2, c2, hs, k1, k2, k4, k5, k6, hqt, hqb, b1, b2]
  decide +kernel
def QTPost (r : Ans) : Prop := ∃ q : Query, r = ⟨[none], .agg [.int .i64 q.kind, .str q.field, .str q.text, .int .i64 q.low, .int .i64 q.high, .slo 6 (q.parts.map pvo)]⟩ ∧ q.Sm
theorem drawTerms_ex (b : Str) : ∃ r, R S0 11 [.sl (b.map bytePV)] = some r ∧ QTPost r := by
  have hb : (b.take 2000).length ≤ 2000 := by simp; omega
  obtain ⟨r2, hr2, hh⟩ := any_ex (b.take 2000) 0 (by omega) hb
  obtain ⟨q, p2, rfl, h3, h4, hq⟩ := hh.get
  rw [show ((0 : Nat) : Int) = 0 from rfl] at hr2
  refine (fun ⟨r, h, hp⟩ => ⟨r, go11 rfl h, hp⟩ : (∃ r, Ends S0 _ _ r ∧ _) → _) ?_
  simp only [go_sem, ↓reduceIte, Nat.reduceAdd, Nat.reduceSub, Nat.reduceEqDiff, Nat.reduceLT, Nat.reduceLeDiff, Nat.reduceMul, Int.reduceNeg, Int.reduceToNat, Int.reduceEq, Int.reduceLT, Int.reduceLE, reduceCtorEq, Tryd.f11, hr2, hb, ex_if, ex_bool, ex_and, ex_eq]
  exact ⟨q, rfl, hq⟩
theorem notQ_sm {q : Query} (h : q.Sm) : (notQ q).Sm := ⟨_, by show 0 ≤ _; omega, by show 0 ≤ _; omega, by show 1 ≤ _; omega, fun p hp => by simp [notQ, Query.parts] at hp; subst hp; exact h⟩
theorem fnQueryTerms_R (b : Str) (hb : b.length ≤ 9223372036854775807) : R S0 4 [.sl (b.map bytePV)] = some ⟨[none], .bool true⟩ := by
  by_cases h0 : (1048576 : Int) < b.length
  · refine go4 rfl ?_; simp only [go_sem, ↓reduceIte, Nat.reduceAdd, Nat.reduceSub, Nat.reduceEqDiff, Nat.reduceLT, Nat.reduceLeDiff, Nat.reduceMul, Int.reduceNeg, Int.reduceToNat, Int.reduceEq, Int.reduceLT, Int.reduceLE, reduceCtorEq, Tryd.f4, h0]
  obtain ⟨r, hr, q, rfl, hq⟩ := drawTerms_ex b
  have hqt : (if okQ 4 q = true then termsS q [] else []) = qTerms q := rfl
  have hql := qTerms_len q
  have hqb : (qTerms q).length ≤ 1099511627776 := by omega
  refine go4 rfl ?_; simp only [go_sem, ↓reduceIte, Nat.reduceAdd, Nat.reduceSub, Nat.reduceEqDiff, Nat.reduceLT, Nat.reduceLeDiff, Nat.reduceMul, Int.reduceNeg, Int.reduceToNat, Int.reduceEq, Int.reduceLT, Int.reduceLE, reduceCtorEq, Tryd.f4, h0, hr, hq, hqt, hqb]
  refine ends_for (qTerms q).length (by omega) (fun i _ => mkSt [(3, .addr 0 0 0), (4, .own 1), (5, .int .i64 i)] [.pto [.int .i64 q.kind, .str q.field, .str q.text, .int .i64 q.low, .int .i64 q.high, .slo 6 (q.parts.map pvo)], .slo 1 ((qTerms q).map .str)]) (fun i _ => True) 0 () (by omega) trivial ?_ ?_
  · rintro i _ hi - hw ih
    obtain ⟨y, hy, hg, hd⟩ := drop_get hi default
    obtain ⟨t1, t2, t3, t4⟩ := qTerms_trm q y (List.mem_of_getElem? hy)
    have t5 : y.length ≤ 1099511627776 := by omega
    by_cases hz : i = 0
    · have hz1 : ¬ (0 : Int) < i := by omega
      simp only [go_sem, ↓reduceIte, Nat.reduceAdd, Nat.reduceSub, Nat.reduceEqDiff, Nat.reduceLT, Nat.reduceLeDiff, Nat.reduceMul, Int.reduceNeg, Int.reduceToNat, Int.reduceEq, Int.reduceLT, Int.reduceLE, reduceCtorEq, hi, hw, hg, hy, t1, t2, t5, hz1]
      exact ih () trivial
    · have hz1 : (0 : Int) < i := by omega
      have w1 : IntKind.i64.wrap ((i : Int) - 1) = ((i - 1 : Nat) : Int) := by rw [wrap_in (by omega) (by omega)]; omega
      have hi1 : i - 1 < (qTerms q).length := by omega
      obtain ⟨z, hz2, hg2, hd2⟩ := drop_get hi1 default
      have hlt : Go.Op.bytesLess z y = true := by
        rw [bl_iff]
        have := qTerms_asc q
        rw [Asc, List.pairwise_iff_getElem] at this
        have := this (i - 1) i hi1 hi (by omega)
        rw [List.getElem?_eq_getElem hi1] at hz2
        rw [List.getElem?_eq_getElem hi] at hy
        simp only [Option.some.injEq] at hz2 hy
        rw [← hz2, ← hy]; exact this
      simp only [go_sem, ↓reduceIte, Nat.reduceAdd, Nat.reduceSub, Nat.reduceEqDiff, Nat.reduceLT, Nat.reduceLeDiff, Nat.reduceMul, Int.reduceNeg, Int.reduceToNat, Int.reduceEq, Int.reduceLT, Int.reduceLE, reduceCtorEq, hi, hw, hg, hy, t1, t2, t5, hz1, w1, hi1, hz2, hlt]
      exact ih () trivial
  · rintro _ -
    have hn := notQ_sm hq
    have k1 := implQueryTerms_R (notQ q) hn
    have hqn : (if okQ 4 (notQ q) = true then termsS (notQ q) [] else []) = [] := qTerms_not q
    rw [hqn] at k1
    have k2 : R S0 12 [.agg [.int .i64 9, .str [], .str [], .int .i64 0, .int .i64 0, .sl [.agg [.int .i64 q.kind, .str q.field, .str q.text, .int .i64 q.low, .int .i64 q.high, .sl (q.parts.map pv)]]]] = some ⟨[none], .slo 1 []⟩ := by
      rw [← pv_eq]; exact k1
    simp only [go_sem, ↓reduceIte, Nat.reduceAdd, Nat.reduceSub, Nat.reduceEqDiff, Nat.reduceLT, Nat.reduceLeDiff, Nat.reduceMul, Int.reduceNeg, Int.reduceToNat, Int.reduceEq, Int.reduceLT, Int.reduceLE, reduceCtorEq, hq, k2]
end Go.Proofs.YthmoogdjppcgbabDoor.PVE
