/- The reference's reader of questions: any text; what a text is. -/
import Derived.Test.YtmanllfmgghadaaGreatDoorT87
set_option linter.unusedVariables false
set_option linter.unusedSimpArgs false
set_option maxRecDepth 100000
namespace Go.Proofs.YtmanllfmgghadaaGreatDoor.PVE
open PV Query
theorem mark_rt2 {d : Nat} {s : Str} {a n : Nat} {q : Query} {f : Bool} (c64 : begM [64] (s.drop a) = true) (e : markS (s.drop (a + 1)) = (q, n, f)) : ∀ q0 r, okQ (d + 1) q0 = true → s.drop a = putQ q0 ++ r → Dl r → q = q0 ∧ a + 1 + n = a + (putQ q0).length ∧ f = false := fun q0 r o1 o2 o3 => by
  rcases put_split o1 o2 o3 with ⟨c, _⟩ | ⟨c, _⟩ | ⟨c, _⟩ | ⟨_, _, hm, h0⟩ | ⟨_, _, _, c, _⟩
  · exact absurd (begM_two c64 c) (by decide)
  · exact absurd (begM_two c64 c) (by decide)
  · exact absurd (begM_two c64 c) (by decide)
  · rw [List.drop_drop, e] at hm
    obtain ⟨rfl, hm⟩ := Prod.mk.inj hm
    obtain ⟨rfl, rfl⟩ := Prod.mk.inj hm
    exact ⟨rfl, by omega, rfl⟩
  · rw [c] at c64; cases c64
theorem word_rt2 {d : Nat} {s : Str} {a n : Nat} {q : Query} {f : Bool} (c42 : begM [42] (s.drop a) = false) (c45 : begM [45] (s.drop a) = false) (c40 : begM [40] (s.drop a) = false) (c64 : begM [64] (s.drop a) = false) (e : namedS (s.drop a) = (q, n, f)) : ∀ q0 r, okQ (d + 1) q0 = true → s.drop a = putQ q0 ++ r → Dl r → q = q0 ∧ a + n = a + (putQ q0).length ∧ f = false := fun q0 r o1 o2 o3 => by
  rcases put_split o1 o2 o3 with ⟨c, _⟩ | ⟨c, _⟩ | ⟨c, _⟩ | ⟨c, _⟩ | ⟨_, _, _, _, _, hm⟩
  · rw [c] at c42; cases c42
  · rw [c] at c45; cases c45
  · rw [c] at c40; cases c40
  · rw [c] at c64; cases c64
  · rw [e] at hm
    obtain ⟨rfl, hm⟩ := Prod.mk.inj hm
    obtain ⟨rfl, rfl⟩ := Prod.mk.inj hm
    exact ⟨rfl, rfl, rfl⟩
theorem squery_ex (s : Str) (hs : s.length ≤ 200) (d : Nat) : d ≤ 4 → ∀ a : Nat, a ≤ s.length → ∃ r, R S0 97 [.pto [.str s, .int .i64 a, .bool false], .int .i64 d] = some r ∧ SPost d s a r := by
  have hs' : s.length ≤ 1000 := by omega
  induction d with
  | zero =>
    intro _ a ha
    refine (fun ⟨r, h, hp⟩ => ⟨r, go97 rfl h, hp⟩ : (∃ r, Ends S0 _ _ r ∧ _) → _) ?_
    simp only [go_sem, ↓reduceIte, Nat.reduceAdd, Nat.reduceSub, Nat.reduceEqDiff, Nat.reduceLT, Nat.reduceLeDiff, Nat.reduceMul, Int.reduceNeg, Int.reduceToNat, Int.reduceEq, Int.reduceLT, Int.reduceLE, reduceCtorEq, Tryz.f97, Int.ofNat_zero, ex_if, ex_bool, ex_and, ex_eq]
    exact spost (q := .mk 0 [] [] 0 0 []) (Nat.le_refl _) ha (leaf_sm (by simp) (by simp)) fun q0 r h => by cases h
  | succ d ih =>
    intro hd4 a ha
    have ih := ih (by omega)
    have h1 : ¬ ((d + 1 : Nat) : Int) < 1 := by omega
    have hdd : IntKind.i64.wrap (((d + 1 : Nat) : Int) - 1) = (d : Int) := by rw [wrap_in (by omega) (by omega)]; omega
    refine (fun ⟨r, h, hp⟩ => ⟨r, go97 rfl h, hp⟩ : (∃ r, Ends S0 _ _ r ∧ _) → _) ?_
    by_cases hal : a < s.length
    case neg =>
      have hal' : s.length ≤ a := by omega
      simp only [go_sem, ↓reduceIte, Nat.reduceAdd, Nat.reduceSub, Nat.reduceEqDiff, Nat.reduceLT, Nat.reduceLeDiff, Nat.reduceMul, Int.reduceNeg, Int.reduceToNat, Int.reduceEq, Int.reduceLT, Int.reduceLE, reduceCtorEq, Tryz.f97, h1, hal', ex_if, ex_bool, ex_and, ex_eq]
      refine spost (q := .mk 0 [] [] 0 0 []) (Nat.le_refl _) ha (leaf_sm (by simp) (by simp)) fun q0 r o1 o2 o3 => ?_
      rw [List.drop_of_length_le hal'] at o2
      exact absurd (List.append_eq_nil_iff.1 o2.symm).1 (put_ne o1)
    have hal' : ¬ s.length ≤ a := by omega
    cases c40 : begM [40] (s.drop a) with
    | true =>
      obtain ⟨r1, hr1, q, b, f, rfl, k1, k2, k3, k4⟩ := ih (a + 1) (by omega)
      have hm : ∃ r, R S0 153 [.pto [.str s, .int .i64 (a + 1 : Nat), .bool false], .int .i64 d] = some r ∧ SPost (d + 1) s a r := by
        cases hbar : begM [32, 124, 32] (s.drop b) with
        | true => exact sm_or s hs d a (by omega) c40 ih hr1 k1 k2 k3 k4 hbar
        | false => exact sm_and s hs d a (by omega) c40 ih hr1 k1 k2 k3 k4 hbar
      obtain ⟨r2, hr2, q2, b2, f2, rfl, m1, m2, m3, m4⟩ := hm
      simp only [go_sem, ↓reduceIte, Nat.reduceAdd, Nat.reduceSub, Nat.reduceEqDiff, Nat.reduceLT, Nat.reduceLeDiff, Nat.reduceMul, Int.reduceNeg, Int.reduceToNat, Int.reduceEq, Int.reduceLT, Int.reduceLE, reduceCtorEq, Tryz.f97, h1, hal', c40, ha, hs', hdd, hr2, List.length_cons, List.length_nil, ex_if, ex_bool, ex_and, ex_eq]
      exact spost m1 m2 m3 m4
    | false =>
    cases c45 : begM [45] (s.drop a) with
    | true =>
      obtain ⟨r1, hr1, q, b, f, rfl, k1, k2, k3, k4⟩ := ih (a + 1) (by omega)
      simp only [go_sem, ↓reduceIte, Nat.reduceAdd, Nat.reduceSub, Nat.reduceEqDiff, Nat.reduceLT, Nat.reduceLeDiff, Nat.reduceMul, Int.reduceNeg, Int.reduceToNat, Int.reduceEq, Int.reduceLT, Int.reduceLE, reduceCtorEq, Tryz.f97, h1, hal', c40, c45, ha, hs', hdd, hr1, List.length_cons, List.length_nil, ex_if, ex_bool, ex_and, ex_eq]
      have e1 : [PV.agg [.int .i64 q.kind, .str q.field, .str q.text, .int .i64 q.low, .int .i64 q.high, .slo 6 (q.parts.map pvo)]] = [q].map pvo := by simp [pvo_eq]
      rw [e1]
      refine spost (q := .mk 9 [] [] 0 0 [q]) (by omega) k2 (node_sm (by simp) (by simpa using k3)) fun q0 r o1 o2 o3 => ?_
      rcases put_split o1 o2 o3 with ⟨c, _⟩ | ⟨_, p, rfl, hp, hd⟩ | ⟨c, _⟩ | ⟨c, _⟩ | ⟨_, c, _⟩
      · exact absurd (begM_two c45 c) (by decide)
      · obtain ⟨rfl, hb, hf⟩ := k4 p r hp (by rw [← List.drop_drop]; exact hd) o3
        refine ⟨rfl, ?_, hf⟩
        rw [put9, List.length_cons]; omega
      · exact absurd (begM_two c45 c) (by decide)
      · exact absurd (begM_two c45 c) (by decide)
      · rw [c] at c45; cases c45
    | false =>
    cases c42 : begM [42] (s.drop a) with
    | true =>
      simp only [go_sem, ↓reduceIte, Nat.reduceAdd, Nat.reduceSub, Nat.reduceEqDiff, Nat.reduceLT, Nat.reduceLeDiff, Nat.reduceMul, Int.reduceNeg, Int.reduceToNat, Int.reduceEq, Int.reduceLT, Int.reduceLE, reduceCtorEq, Tryz.f97, h1, hal', c40, c45, c42, ha, hs', List.length_cons, List.length_nil, ex_if, ex_bool, ex_and, ex_eq]
      refine spost (q := .mk 1 [] [] 0 0 []) (by omega) (by omega) (leaf_sm (by simp) (by simp)) fun q0 r o1 o2 o3 => ?_
      rcases put_split o1 o2 o3 with ⟨_, rfl⟩ | ⟨c, _⟩ | ⟨c, _⟩ | ⟨c, _⟩ | ⟨c, _⟩
      · exact ⟨rfl, rfl, rfl⟩
      · exact absurd (begM_two c42 c) (by decide)
      · exact absurd (begM_two c42 c) (by decide)
      · exact absurd (begM_two c42 c) (by decide)
      · rw [c] at c42; cases c42
    | false =>
    cases c64 : begM [64] (s.drop a) with
    | true =>
      have ha1 : a + 1 ≤ s.length := by omega
      have hM := smark_R s (a + 1) ha1 hs'
      have hrt := mark_rt2 (d := d) (q := (markS (s.drop (a + 1))).1) (n := (markS (s.drop (a + 1))).2.1) (f := (markS (s.drop (a + 1))).2.2) c64 rfl
      obtain ⟨l1, k', f', x', lo', hi', l2, l3, l4⟩ := markS_le (s.drop (a + 1))
      rw [List.length_drop] at l1 l3 l4
      generalize markS (s.drop (a + 1)) = M at *
      obtain ⟨q, n, f⟩ := M
      simp only at hM hrt l1 l2
      subst l2
      simp only [go_sem, ↓reduceIte, Nat.reduceAdd, Nat.reduceSub, Nat.reduceEqDiff, Nat.reduceLT, Nat.reduceLeDiff, Nat.reduceMul, Int.reduceNeg, Int.reduceToNat, Int.reduceEq, Int.reduceLT, Int.reduceLE, reduceCtorEq, Tryz.f97, h1, hal', c40, c45, c42, c64, ha, ha1, hs', hM, List.length_cons, List.length_nil, ex_if, ex_bool, ex_and, ex_eq]
      exact spost (q := .mk k' f' x' lo' hi' []) (by omega) (by omega) (leaf_sm (by omega) (by omega)) hrt
    | false =>
    have r1 := run_le (s.drop a)
    rw [List.length_drop] at r1
    have h3 : a + run (s.drop a) ≤ s.length := by omega
    have hz : ((s.drop a).take (run (s.drop a)) = []) = (run (s.drop a) = 0) := by
      rw [← List.length_eq_zero_iff, List.length_take, List.length_drop]
      apply propext
      omega
    by_cases hn : run (s.drop a) ≠ 0 ∧ begM [58] (s.drop (a + run (s.drop a))) = true
    · obtain ⟨hn1, c58⟩ := hn
      have hz1 : ¬ (s.drop a).take (run (s.drop a)) = [] := by rw [hz]; exact hn1
      have h5 : a + run (s.drop a) + 1 ≤ s.length := by
        have := begM_len c58
        rw [List.length_drop] at this
        simp only [List.length_cons, List.length_nil] at this
        omega
      have hW := sword_R s (a + run (s.drop a) + 1) h5 hs'
      obtain ⟨l1, k', x', l2, l3⟩ := wordS_le (s.drop (a + run (s.drop a) + 1))
      have e : namedS (s.drop a) = (inF ((s.drop a).take (run (s.drop a))) (wordS (s.drop (a + run (s.drop a) + 1))).1, run (s.drop a) + 1 + (wordS (s.drop (a + run (s.drop a) + 1))).2.1, (wordS (s.drop (a + run (s.drop a) + 1))).2.2) := by
        rw [namedS, if_pos ⟨hn1, by rw [List.drop_drop]; exact c58⟩, List.drop_drop, ← Nat.add_assoc]
      have hrt := word_rt2 (d := d) c42 c45 c40 c64 e
      rw [List.length_drop] at l1 l3
      generalize wordS (s.drop (a + run (s.drop a) + 1)) = M at *
      obtain ⟨q, n, f⟩ := M
      simp only at hW hrt l1 l2
      subst l2
      simp only [go_sem, ↓reduceIte, Nat.reduceAdd, Nat.reduceSub, Nat.reduceEqDiff, Nat.reduceLT, Nat.reduceLeDiff, Nat.reduceMul, Int.reduceNeg, Int.reduceToNat, Int.reduceEq, Int.reduceLT, Int.reduceLE, reduceCtorEq, Tryz.f97, h1, hal', c40, c45, c42, c64, ha, hs', h3, h5, hz1, c58, hW, List.length_cons, List.length_nil, ex_if, ex_bool, ex_and, ex_eq]
      refine spost (q := .mk k' ((s.drop a).take (run (s.drop a))) x' 0 0 []) (by omega) (by omega) (leaf_sm (by rw [List.length_take, List.length_drop]; omega) (by omega)) fun q0 r o1 o2 o3 => ?_
      obtain ⟨g1, g2, g3⟩ := hrt q0 r o1 o2 o3
      exact ⟨g1, by omega, g3⟩
    · have hW := sword_R s a ha hs'
      obtain ⟨l1, k', x', l2, l3⟩ := wordS_le (s.drop a)
      have e : namedS (s.drop a) = wordS (s.drop a) := by
        rw [namedS, if_neg]
        rintro ⟨n1, n2⟩
        rw [List.drop_drop] at n2
        exact hn ⟨n1, n2⟩
      have hrt := word_rt2 (d := d) (q := (wordS (s.drop a)).1) (n := (wordS (s.drop a)).2.1) (f := (wordS (s.drop a)).2.2) c42 c45 c40 c64 e
      rw [List.length_drop] at l1 l3
      generalize wordS (s.drop a) = M at *
      obtain ⟨q, n, f⟩ := M
      simp only at hW hrt l1 l2
      subst l2
      by_cases hn1 : run (s.drop a) = 0
      · have hz1 : ((s.drop a).take (run (s.drop a)) = []) = True := by rw [hz]; exact eq_true hn1
        simp only [go_sem, ↓reduceIte, Nat.reduceAdd, Nat.reduceSub, Nat.reduceEqDiff, Nat.reduceLT, Nat.reduceLeDiff, Nat.reduceMul, Int.reduceNeg, Int.reduceToNat, Int.reduceEq, Int.reduceLT, Int.reduceLE, reduceCtorEq, Tryz.f97, h1, hal', c40, c45, c42, c64, ha, hs', h3, hz1, hW, List.length_cons, List.length_nil, ex_if, ex_bool, ex_and, ex_eq]
        exact spost (q := .mk k' [] x' 0 0 []) (by omega) (by omega) (leaf_sm (by simp) (by omega)) hrt
      · have hz1 : ¬ (s.drop a).take (run (s.drop a)) = [] := by rw [hz]; exact hn1
        have c58 : begM [58] (s.drop (a + run (s.drop a))) = false := by
          cases c : begM [58] (s.drop (a + run (s.drop a))) with
          | false => rfl
          | true => exact absurd ⟨hn1, c⟩ hn
        simp only [go_sem, ↓reduceIte, Nat.reduceAdd, Nat.reduceSub, Nat.reduceEqDiff, Nat.reduceLT, Nat.reduceLeDiff, Nat.reduceMul, Int.reduceNeg, Int.reduceToNat, Int.reduceEq, Int.reduceLT, Int.reduceLE, reduceCtorEq, Tryz.f97, h1, hal', c40, c45, c42, c64, ha, hs', h3, hz1, c58, hW, List.length_cons, List.length_nil, ex_if, ex_bool, ex_and, ex_eq]
        exact spost (q := .mk k' [] x' 0 0 []) (by omega) (by omega) (leaf_sm (by simp) (by omega)) hrt
end Go.Proofs.YtmanllfmgghadaaGreatDoor.PVE
