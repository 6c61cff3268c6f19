/- QueryPut, QueryGet: the reference's side; the laws. -/
import Derived.Test.YtmanllfmgghadaaGreatDoorT88
set_option linter.unusedVariables false
set_option linter.unusedSimpArgs false
set_option maxRecDepth 100000
namespace Go.Proofs.YtmanllfmgghadaaGreatDoor.PVE
open PV Query
@[go_sem] theorem specQueryPut_R (q : Query) (hq : q.Sm) : R S0 45 [.agg [.int .i64 q.kind, .str q.field, .str q.text, .int .i64 q.low, .int .i64 q.high, .sl (q.parts.map pv)]] = some ⟨[none], .str (putA q)⟩ := by
  cases h : okQ 4 q with
  | true =>
    have hP := specPut_R 4 (Nat.le_refl _) q hq h
    rw [putA, h, if_pos rfl]
    refine go45 rfl ?_; simp only [go_sem, ↓reduceIte, Nat.reduceAdd, Nat.reduceSub, Nat.reduceEqDiff, Nat.reduceLT, Nat.reduceLeDiff, Nat.reduceMul, Int.reduceNeg, Int.reduceToNat, Int.reduceEq, Int.reduceLT, Int.reduceLE, reduceCtorEq, Tryz.f45, hq, h, hP]
  | false =>
    rw [putA, h, if_neg (by simp)]
    refine go45 rfl ?_; simp only [go_sem, ↓reduceIte, Nat.reduceAdd, Nat.reduceSub, Nat.reduceEqDiff, Nat.reduceLT, Nat.reduceLeDiff, Nat.reduceMul, Int.reduceNeg, Int.reduceToNat, Int.reduceEq, Int.reduceLT, Int.reduceLE, reduceCtorEq, Tryz.f45, hq, h]
theorem putA_len (q : Query) : (putA q).length ≤ 100000 := by
  rw [putA]; split
  · rename_i h; exact putN_le h (Nat.le_refl _)
  · simp
theorem specQueryGet_R (t : Str) (ht : t.length ≤ 1099511627776) : R S0 40 [.str t] = some ⟨[none], .tup [.agg [.int .i64 (getQ t).1.kind, .str (getQ t).1.field, .str (getQ t).1.text, .int .i64 (getQ t).1.low, .int .i64 (getQ t).1.high, .slo 6 ((getQ t).1.parts.map pvo)], .bool (getQ t).2]⟩ := by
  by_cases hl : 200 < (t.length : Int)
  · rw [getQ_no (by rintro ⟨h, _⟩; omega)]
    refine go40 rfl ?_; simp only [go_sem, ↓reduceIte, Nat.reduceAdd, Nat.reduceSub, Nat.reduceEqDiff, Nat.reduceLT, Nat.reduceLeDiff, Nat.reduceMul, Int.reduceNeg, Int.reduceToNat, Int.reduceEq, Int.reduceLT, Int.reduceLE, reduceCtorEq, Tryz.f40, hl]
    exact ⟨rfl, rfl, rfl, rfl, rfl, rfl⟩
  obtain ⟨r, hr, q, b, f, rfl, k1, k2, k3, k4⟩ := squery_ex t (by omega) 4 (by omega) 0 (by omega)
  rw [show ((0 : Nat) : Int) = 0 from rfl, show ((4 : Nat) : Int) = 4 from rfl] at hr
  have hu : ∀ q0, okQ 4 q0 = true → putQ q0 = t → q = q0 ∧ b = t.length ∧ f = false := fun q0 h1 h2 => by
    have := k4 q0 [] h1 (by rw [h2]; simp) dl_nil
    rw [h2] at this
    exact ⟨this.1, by omega, this.2.2⟩
  have no : (f = true ∨ ¬ b = t.length ∨ okQ 4 q = false ∨ ¬ putQ q = t) → getQ t = (zeroQ, false) := fun h => getQ_no (by
    rintro ⟨_, q0, h1, h2⟩
    obtain ⟨rfl, h3, h4⟩ := hu q0 h1 h2
    rcases h with h | h | h | h
    · rw [h4] at h; cases h
    · exact h h3
    · rw [h1] at h; cases h
    · exact h h2)
  cases f with
  | true =>
    rw [no (.inl rfl)]
    refine go40 rfl ?_; simp only [go_sem, ↓reduceIte, Nat.reduceAdd, Nat.reduceSub, Nat.reduceEqDiff, Nat.reduceLT, Nat.reduceLeDiff, Nat.reduceMul, Int.reduceNeg, Int.reduceToNat, Int.reduceEq, Int.reduceLT, Int.reduceLE, reduceCtorEq, Tryz.f40, hl, hr]
    exact ⟨rfl, rfl, rfl, rfl, rfl, rfl⟩
  | false =>
    by_cases hb : b = t.length
    case neg =>
      rw [no (.inr (.inl hb))]
      have hb' : ¬ (b : Int) = (t.length : Int) := by omega
      refine go40 rfl ?_; simp only [go_sem, ↓reduceIte, Nat.reduceAdd, Nat.reduceSub, Nat.reduceEqDiff, Nat.reduceLT, Nat.reduceLeDiff, Nat.reduceMul, Int.reduceNeg, Int.reduceToNat, Int.reduceEq, Int.reduceLT, Int.reduceLE, reduceCtorEq, Tryz.f40, hl, hr, hb, hb']
      exact ⟨rfl, rfl, rfl, rfl, rfl, rfl⟩
    have hb' : ((b : Int) = (t.length : Int)) = True := eq_true (by omega)
    cases hok : okQ 4 q with
    | false =>
      rw [no (.inr (.inr (.inl hok)))]
      refine go40 rfl ?_; simp only [go_sem, ↓reduceIte, Nat.reduceAdd, Nat.reduceSub, Nat.reduceEqDiff, Nat.reduceLT, Nat.reduceLeDiff, Nat.reduceMul, Int.reduceNeg, Int.reduceToNat, Int.reduceEq, Int.reduceLT, Int.reduceLE, reduceCtorEq, Tryz.f40, hl, hr, hb, hb', k3, hok]
      exact ⟨rfl, rfl, rfl, rfl, rfl, rfl⟩
    | true =>
      have hP := specPut_R 4 (Nat.le_refl _) q k3 hok
      by_cases hp : putQ q = t
      · rw [getQ_yes (by omega) hok hp fun q0 h1 h2 => (hu q0 h1 h2).1]
        refine go40 rfl ?_; simp only [go_sem, ↓reduceIte, Nat.reduceAdd, Nat.reduceSub, Nat.reduceEqDiff, Nat.reduceLT, Nat.reduceLeDiff, Nat.reduceMul, Int.reduceNeg, Int.reduceToNat, Int.reduceEq, Int.reduceLT, Int.reduceLE, reduceCtorEq, Tryz.f40, hl, hr, hb, hb', k3, hok, hP, hp]
      · rw [no (.inr (.inr (.inr hp)))]
        refine go40 rfl ?_; simp only [go_sem, ↓reduceIte, Nat.reduceAdd, Nat.reduceSub, Nat.reduceEqDiff, Nat.reduceLT, Nat.reduceLeDiff, Nat.reduceMul, Int.reduceNeg, Int.reduceToNat, Int.reduceEq, Int.reduceLT, Int.reduceLE, reduceCtorEq, Tryz.f40, hl, hr, hb, hb', k3, hok, hP, hp]
        exact ⟨rfl, rfl, rfl, rfl, rfl, rfl⟩
theorem getQ_put {q : Query} (h : okQ 4 q = true) (hl : (putQ q).length ≤ 200) : getQ (putQ q) = (q, true) := by
  obtain ⟨r, hr, q2, b, rfl, k1, k2, k3, k4⟩ := pquery_ex (putQ q) hl 4 1 0 (by omega) (by omega)
  have hu : ∀ q0, okQ 4 q0 = true → putQ q0 = putQ q → q2 = q0 := fun q0 h1 h2 => (k4 q0 [] h1 (by rw [h2]; simp) dl_nil).1
  exact getQ_yes hl h rfl fun q0 h1 h2 => (hu q h rfl).symm.trans (hu q0 h1 h2)
theorem getQ_back {t : Str} (h : (getQ t).2 = true) : okQ 4 (getQ t).1 = true ∧ putQ (getQ t).1 = t ∧ putA (getQ t).1 = t := by
  unfold getQ at h ⊢
  split
  · rename_i hx
    have h1 := hx.2.choose_spec
    exact ⟨h1.1, h1.2, by rw [putA, if_pos h1.1, h1.2]⟩
  · rename_i hx
    rw [dif_neg hx] at h; cases h
theorem getQ_sm (t : Str) : (getQ t).1.Sm := by
  cases h : (getQ t).2 with
  | true => exact okQ_sm 4 (getQ_back h).1
  | false =>
    unfold getQ at h ⊢
    split
    · rename_i hx
      rw [dif_pos hx] at h; cases h
    · exact zero_sm
def nB : Nat → Nat
  | 0 => 0
  | d + 1 => 4 * (nB d + 1)
theorem nodesL_le {m : Nat} : ∀ {l : List Query}, (∀ q ∈ l, nodes q ≤ m) → nodesL l ≤ l.length * (m + 1)
  | [], _ => Nat.zero_le _
  | q :: l, h => by
    have h1 := h q (by simp)
    have h2 := nodesL_le (l := l) fun x hx => h x (List.mem_cons_of_mem _ hx)
    rw [nodesL, List.length_cons, Nat.add_mul, Nat.one_mul]
    omega
theorem okQ_nodes : ∀ (d : Nat) {q : Query}, okQ d q = true → nodes q ≤ nB d
  | 0, q, h => by cases h
  | d + 1, q, h => by
    obtain ⟨e, he, hn, hps⟩ := okQ_node h
    obtain rfl : d = e := by omega
    have h3 := (nodeOk_len hn).2.2
    have := nodesL_le (l := q.parts) fun p hp => okQ_nodes d (hps p hp)
    have := Nat.mul_le_mul_right (nB d + 1) h3
    rw [nodes_eq, nB]
    omega
theorem getQ_nodes (t : Str) : nodesL (getQ t).1.parts ≤ 340 := by
  rw [← nodes_eq]
  cases h : (getQ t).2 with
  | true =>
    have := okQ_nodes 4 (getQ_back h).1
    have e : nB 4 = 340 := by decide
    omega
  | false =>
    unfold getQ at h ⊢
    split
    · rename_i hx
      rw [dif_pos hx] at h; cases h
    · simp [zeroQ, nodes, nodesL]
theorem FnExactQueryGet_R (t : Str) (ht : t.length ≤ 9223372036854775807) : R S0 8 [.str t] = some ⟨[none], .bool true⟩ := by
  by_cases c0 : 1048576 < (t.length : Int)
  · refine go8 rfl ?_; simp only [go_sem, ↓reduceIte, Nat.reduceAdd, Nat.reduceSub, Nat.reduceEqDiff, Nat.reduceLT, Nat.reduceLeDiff, Nat.reduceMul, Int.reduceNeg, Int.reduceToNat, Int.reduceEq, Int.reduceLT, Int.reduceLE, reduceCtorEq, Tryz.f8, c0]
  have a1 := implQueryGet_R t (by omega)
  have a2 := specQueryGet_R t (by omega)
  have hs := getQ_sm t
  have hn := getQ_nodes t
  generalize getQ t = G at *
  obtain ⟨q, f⟩ := G
  simp only at a1 a2 hs hn
  have k3 := eqQuery_R q hs
  have k5 := markQuery_R q hs 1 (by omega)
  have k6 := heldQuery_R q hs 1 (by omega)
  rw [cast_one] at k5 k6
  have b2 : ¬ ((1 + 5 * nodesL q.parts : Nat) : Int) < 0 := by omega
  refine go8 rfl ?_; simp only [go_sem, ↓reduceIte, Nat.reduceAdd, Nat.reduceSub, Nat.reduceEqDiff, Nat.reduceLT, Nat.reduceLeDiff, Nat.reduceMul, Int.reduceNeg, Int.reduceToNat, Int.reduceEq, Int.reduceLT, Int.reduceLE, reduceCtorEq, Tryz.f8, c0, a1, a2, hs, k3, k5, k6, b2]
end Go.Proofs.YtmanllfmgghadaaGreatDoor.PVE
