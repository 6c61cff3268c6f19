/- The program's reader of questions: any text; the text of a question. -/
import Derived.Test.YtmanllfmgghadaaGreatDoorT82
set_option linter.unusedVariables false
set_option linter.unusedSimpArgs false
set_option maxRecDepth 100000
namespace Go.Proofs.YtmanllfmgghadaaGreatDoor.PVE
open PV Query
def PPost (d : Nat) (s : Str) (a : Nat) (r : Ans) : Prop := ∃ q : Query, ∃ b : Nat, r = ⟨[some (.pto [.str s, .int .i64 (b : Nat)]), none], .agg [.int .i64 q.kind, .str q.field, .str q.text, .int .i64 q.low, .int .i64 q.high, .slo 6 (q.parts.map pvo)]⟩ ∧ a ≤ b ∧ b ≤ s.length ∧ q.Sm ∧ ∀ q0 r, okQ d q0 = true → s.drop a = putQ q0 ++ r → Dl r → q = q0 ∧ b = a + (putQ q0).length
theorem ppost {d : Nat} {s : Str} {a b : Nat} {q : Query} (h1 : a ≤ b) (h2 : b ≤ s.length) (hq : q.Sm) (h : ∀ q0 r, okQ d q0 = true → s.drop a = putQ q0 ++ r → Dl r → q = q0 ∧ b = a + (putQ q0).length) : PPost d s a ⟨[some (.pto [.str s, .int .i64 (b : Nat)]), none], .agg [.int .i64 q.kind, .str q.field, .str q.text, .int .i64 q.low, .int .i64 q.high, .slo 6 (q.parts.map pvo)]⟩ := ⟨q, b, rfl, h1, h2, hq, h⟩
theorem leaf_sm {k lo hi : Int} {f t : Str} (hf : f.length ≤ 1099511627776) (ht : t.length ≤ 1099511627776) : (Query.mk k f t lo hi []).Sm := ⟨_, hf, ht, by show 0 ≤ _; omega, fun p hp => by cases hp⟩
theorem node_sm {k : Int} {ps : List Query} (hl : ps.length ≤ 1099511627776) (h : ∀ x ∈ ps, x.Sm) : (Query.mk k [] [] 0 0 ps).Sm := ⟨_, by show 0 ≤ _; omega, by show 0 ≤ _; omega, hl, h⟩
theorem many_rt {d : Nat} {s : Str} {a : Nat} {K : Int} {sg : Str} {acc : List Query} {b : Nat} (c40 : begM [40] (s.drop a) = true) (hI : MInv 5 d s a K sg acc b) (hst : begM sg (s.drop b) = false ∨ 5 ≤ acc.length) : ∀ q0 r, okQ (d + 1) q0 = true → s.drop a = putQ q0 ++ r → Dl r → Query.mk K [] [] 0 0 acc = q0 ∧ (if begM [41] (s.drop b) = true then b + 1 else b) = a + (putQ q0).length := fun q0 r o1 o2 o3 => by
  obtain ⟨i1, i2, _⟩ := id hI
  rcases put_split o1 o2 o3 with ⟨c, _⟩ | ⟨c, _⟩ | ⟨_, k, sg', p, ps, hks, rfl, hne, hl3, hp, hps, hd, hlen⟩ | ⟨c, _⟩ | ⟨_, _, c, _⟩
  · exact absurd (begM_two c40 c) (by decide)
  · exact absurd (begM_two c40 c) (by decide)
  · have hM : MH d s a k sg' p ps r := ⟨hks, hne, hl3, hp, hps, by rw [← List.drop_drop]; exact hd, o3⟩
    rcases hst with hst | hst
    · obtain ⟨rfl, rfl, hb⟩ := hI.stop hst hM
      have he := many_end hM i2 i1 hb
      rw [hb, begM_yes, if_pos rfl]
      exact ⟨rfl, by omega⟩
    · exact (hI.full hst hM).elim
  · exact absurd (begM_two c40 c) (by decide)
  · rw [c] at c40; cases c40
theorem mark_rt {d : Nat} {s : Str} {a n : Nat} {q : Query} (c64 : begM [64] (s.drop a) = true) (e : markC (s.drop (a + 1)) = (q, n)) : ∀ q0 r, okQ (d + 1) q0 = true → s.drop a = putQ q0 ++ r → Dl r → q = q0 ∧ a + 1 + n = a + (putQ q0).length := fun q0 r o1 o2 o3 => by
  rcases put_split o1 o2 o3 with ⟨c, _⟩ | ⟨c, _⟩ | ⟨c, _⟩ | ⟨_, hm, _, h0⟩ | ⟨_, _, _, c, _⟩
  · exact absurd (begM_two c64 c) (by decide)
  · exact absurd (begM_two c64 c) (by decide)
  · exact absurd (begM_two c64 c) (by decide)
  · rw [List.drop_drop, e] at hm
    obtain ⟨rfl, rfl⟩ := Prod.mk.inj hm
    exact ⟨rfl, by omega⟩
  · rw [c] at c64; cases c64
theorem word_rt {d : Nat} {s : Str} {a n : Nat} {q : Query} (c42 : begM [42] (s.drop a) = false) (c45 : begM [45] (s.drop a) = false) (c40 : begM [40] (s.drop a) = false) (c64 : begM [64] (s.drop a) = false) (e : wordC (s.drop a) = (q, n)) : ∀ q0 r, okQ (d + 1) q0 = true → s.drop a = putQ q0 ++ r → Dl r → q = q0 ∧ a + n = a + (putQ q0).length := fun q0 r o1 o2 o3 => by
  rcases put_split o1 o2 o3 with ⟨c, _⟩ | ⟨c, _⟩ | ⟨c, _⟩ | ⟨c, _⟩ | ⟨_, _, _, _, hm, _⟩
  · rw [c] at c42; cases c42
  · rw [c] at c45; cases c45
  · rw [c] at c40; cases c40
  · rw [c] at c64; cases c64
  · rw [e] at hm
    obtain ⟨rfl, rfl⟩ := Prod.mk.inj hm
    exact ⟨rfl, rfl⟩
theorem pq_star (s : Str) (hs : s.length ≤ 200) (d k a : Nat) (hk : d + 1 + k = 5) (ha : a ≤ s.length) (c42 : begM [42] (s.drop a) = true) : ∃ r, R S0 99 [.pto [.str s, .int .i64 a], .int .i64 k] = some r ∧ PPost (d + 1) s a r := by
  have hs' : s.length ≤ 1000 := by omega
  have h4 : ¬ (4 : Int) < k := by omega
  have hk1 : IntKind.i64.wrap ((k : Int) + 1) = ((k + 1 : Nat) : Int) := by rw [wrap_in (by omega) (by omega)]; omega
  have hb : ∀ b : UInt8, begM [b] (s.drop a) = true → a + 1 ≤ s.length := fun b h => by
    have := begM_len h
    rw [List.length_drop] at this
    simp only [List.length_cons, List.length_nil] at this
    omega
  refine (fun ⟨r, h, hp⟩ => ⟨r, go99 rfl h, hp⟩ : (∃ r, Ends S0 _ _ r ∧ _) → _) ?_
  have h1 := hb _ c42
  simp only [go_sem, ↓reduceIte, Nat.reduceAdd, Nat.reduceSub, Nat.reduceEqDiff, Nat.reduceLT, Nat.reduceLeDiff, Nat.reduceMul, Int.reduceNeg, Int.reduceToNat, Int.reduceEq, Int.reduceLT, Int.reduceLE, reduceCtorEq, Tryz.f99, h4, c42, ha, hs', List.length_cons, List.length_nil, ex_if, ex_bool, ex_and, ex_eq]
  refine ppost (q := .mk 1 [] [] 0 0 []) (by omega) h1 (leaf_sm (by simp) (by simp)) fun q0 r o1 o2 o3 => ?_
  rcases put_split o1 o2 o3 with ⟨_, rfl⟩ | ⟨c, _⟩ | ⟨c, _⟩ | ⟨c, _⟩ | ⟨c, _⟩
  · exact ⟨rfl, rfl⟩
  · exact absurd (begM_two c42 c) (by decide)
  · exact absurd (begM_two c42 c) (by decide)
  · exact absurd (begM_two c42 c) (by decide)
  · rw [c] at c42; cases c42
theorem pq_not (s : Str) (hs : s.length ≤ 200) (d k a : Nat) (hk : d + 1 + k = 5) (ha : a ≤ s.length) (ih : ∀ a : Nat, a ≤ s.length → ∃ r, R S0 99 [.pto [.str s, .int .i64 a], .int .i64 (k + 1 : Nat)] = some r ∧ PPost d s a r) (c42 : begM [42] (s.drop a) = false) (c45 : begM [45] (s.drop a) = true) : ∃ r, R S0 99 [.pto [.str s, .int .i64 a], .int .i64 k] = some r ∧ PPost (d + 1) s a r := by
  have hs' : s.length ≤ 1000 := by omega
  have h4 : ¬ (4 : Int) < k := by omega
  have hk1 : IntKind.i64.wrap ((k : Int) + 1) = ((k + 1 : Nat) : Int) := by rw [wrap_in (by omega) (by omega)]; omega
  have hb : ∀ b : UInt8, begM [b] (s.drop a) = true → a + 1 ≤ s.length := fun b h => by
    have := begM_len h
    rw [List.length_drop] at this
    simp only [List.length_cons, List.length_nil] at this
    omega
  refine (fun ⟨r, h, hp⟩ => ⟨r, go99 rfl h, hp⟩ : (∃ r, Ends S0 _ _ r ∧ _) → _) ?_
  have h1 := hb _ c45
  obtain ⟨r1, hr1, q, b, rfl, k1, k2, k3, k4⟩ := ih (a + 1) h1
  simp only [go_sem, ↓reduceIte, Nat.reduceAdd, Nat.reduceSub, Nat.reduceEqDiff, Nat.reduceLT, Nat.reduceLeDiff, Nat.reduceMul, Int.reduceNeg, Int.reduceToNat, Int.reduceEq, Int.reduceLT, Int.reduceLE, reduceCtorEq, Tryz.f99, h4, c42, c45, ha, hs', hk1, hr1, List.length_cons, List.length_nil, ex_if, ex_bool, ex_and, ex_eq]
  have e1 : [PV.agg [.int .i64 q.kind, .str q.field, .str q.text, .int .i64 q.low, .int .i64 q.high, .slo 6 (q.parts.map pvo)]] = [q].map pvo := by simp [pvo_eq]
  rw [e1]
  refine ppost (q := .mk 9 [] [] 0 0 [q]) (by omega) k2 (node_sm (by simp) (by simpa using k3)) fun q0 r o1 o2 o3 => ?_
  rcases put_split o1 o2 o3 with ⟨c, _⟩ | ⟨_, p, rfl, hp, hd⟩ | ⟨c, _⟩ | ⟨c, _⟩ | ⟨_, c, _⟩
  · exact absurd (begM_two c45 c) (by decide)
  · obtain ⟨rfl, hb⟩ := k4 p r hp (by rw [← List.drop_drop]; exact hd) o3
    refine ⟨rfl, ?_⟩
    rw [put9, List.length_cons]; omega
  · exact absurd (begM_two c45 c) (by decide)
  · exact absurd (begM_two c45 c) (by decide)
  · rw [c] at c45; cases c45
theorem pq_or (s : Str) (hs : s.length ≤ 200) (d k a : Nat) (hk : d + 1 + k = 5) (ha : a ≤ s.length) (ih : ∀ a : Nat, a ≤ s.length → ∃ r, R S0 99 [.pto [.str s, .int .i64 a], .int .i64 (k + 1 : Nat)] = some r ∧ PPost d s a r) (c42 : begM [42] (s.drop a) = false) (c45 : begM [45] (s.drop a) = false) (c40 : begM [40] (s.drop a) = true) {q : Query} {b : Nat} (hr1 : R S0 99 [.pto [.str s, .int .i64 (a + 1 : Nat)], .int .i64 (k + 1 : Nat)] = some ⟨[some (.pto [.str s, .int .i64 (b : Nat)]), none], .agg [.int .i64 q.kind, .str q.field, .str q.text, .int .i64 q.low, .int .i64 q.high, .slo 6 (q.parts.map pvo)]⟩) (k1 : a + 1 ≤ b) (k2 : b ≤ s.length) (k3 : q.Sm) (k4 : ∀ q0 r, okQ d q0 = true → s.drop (a + 1) = putQ q0 ++ r → Dl r → q = q0 ∧ b = a + 1 + (putQ q0).length) (hbar : begM [32, 124, 32] (s.drop b) = true) : ∃ r, R S0 99 [.pto [.str s, .int .i64 a], .int .i64 k] = some r ∧ PPost (d + 1) s a r := by
  have hs' : s.length ≤ 1000 := by omega
  have h4 : ¬ (4 : Int) < k := by omega
  have hk1 : IntKind.i64.wrap ((k : Int) + 1) = ((k + 1 : Nat) : Int) := by rw [wrap_in (by omega) (by omega)]; omega
  have hb : ∀ b : UInt8, begM [b] (s.drop a) = true → a + 1 ≤ s.length := fun b h => by
    have := begM_len h
    rw [List.length_drop] at this
    simp only [List.length_cons, List.length_nil] at this
    omega
  refine (fun ⟨r, h, hp⟩ => ⟨r, go99 rfl h, hp⟩ : (∃ r, Ends S0 _ _ r ∧ _) → _) ?_
  have h1 := hb _ c40
  have hcb : cut s (b : Int) s.length = s.drop b := cut_drop s b
  simp only [go_sem, ↓reduceIte, Nat.reduceAdd, Nat.reduceSub, Nat.reduceEqDiff, Nat.reduceLT, Nat.reduceLeDiff, Nat.reduceMul, Int.reduceNeg, Int.reduceToNat, Int.reduceEq, Int.reduceLT, Int.reduceLE, reduceCtorEq, Tryz.f99, h4, c42, c45, c40, ha, hs', hk1, hr1, hcb, hbar, k2, List.length_cons, List.length_nil, ex_if, ex_bool, ex_and, ex_eq]
  have hi : MInv 5 d s a 8 [32, 124, 32] [q] b := by
    have := MInv.first (B := 5) k1 k2 (by omega) k3 k4
    rw [hbar, if_pos rfl, if_pos rfl] at this
    exact this
  have e1 : [PV.agg [.int .i64 q.kind, .str q.field, .str q.text, .int .i64 q.low, .int .i64 q.high, .slo 6 (q.parts.map pvo)]] = [q].map pvo := by simp [pvo_eq]
  rw [e1]
  refine ends_wx (fun x : Nat × List Query => s.length - x.1) (fun x => mkSt [(0, .addr 0 0 0), (1, .int .i64 k), (4, .addr 1 0 0), (5, .addr 2 0 0), (6, .str [32, 124, 32]), (1000000, .addr 0 0 0)] [.pto [.str s, .int .i64 (x.1 : Nat)], .pto [.int .i64 0, .str [], .str [], .int .i64 0, .int .i64 0, .slo 6 []], .pto [.int .i64 8, .str [], .str [], .int .i64 0, .int .i64 0, .slo 6 (x.2.map pvo)]]) (fun x => MInv 5 d s a 8 [32, 124, 32] x.2 x.1) (b, [q]) hi ?_
  clear hr1 k1 k2 k3 k4 hi e1
  rintro ⟨b, acc⟩ hI ihl
  simp only at hI
  obtain ⟨i1, i2, i3, i4, i5, _⟩ := id hI
  have hacc : acc.length ≤ 1099511627776 := by omega
  by_cases hl : acc.length ≤ 4
  · have hl' : (acc.length : Int) ≤ 4 := by omega
    cases hsg : begM [32, 124, 32] (s.drop b) with
    | true =>
      have hle := begM_len hsg
      rw [List.length_drop] at hle
      simp only [List.length_cons, List.length_nil] at hle
      have hbn : b + 3 ≤ s.length := by omega
      obtain ⟨r2, hr2, q2, c, rfl, j1, j2, j3, j4⟩ := ih (b + 3) hbn
      have h5 : (acc.length + 1) * 96 ≤ 140737488355328 := by omega
      simp only [go_sem, ↓reduceIte, Nat.reduceAdd, Nat.reduceSub, Nat.reduceEqDiff, Nat.reduceLT, Nat.reduceLeDiff, Nat.reduceMul, Int.reduceNeg, Int.reduceToNat, Int.reduceEq, Int.reduceLT, Int.reduceLE, reduceCtorEq, hl', hsg, hr2, hk1, i2, hs', h5, List.length_cons, List.length_nil, ex_if, ex_bool, ex_and, ex_eq]
      exact ⟨by omega, by decide +kernel, ihl (c, acc ++ [q2]) (by simp only; omega) (hI.step hsg j3 (by simpa using j1) j2 (by omega) j4)⟩
    | false =>
      cases c41 : begM [41] (s.drop b) with
      | true =>
        have hb41 := begM_len c41
        rw [List.length_drop] at hb41
        simp only [List.length_cons, List.length_nil] at hb41
        simp only [go_sem, ↓reduceIte, Nat.reduceAdd, Nat.reduceSub, Nat.reduceEqDiff, Nat.reduceLT, Nat.reduceLeDiff, Nat.reduceMul, Int.reduceNeg, Int.reduceToNat, Int.reduceEq, Int.reduceLT, Int.reduceLE, reduceCtorEq, hl', hsg, c41, i2, hs', List.length_cons, List.length_nil, ex_if, ex_bool, ex_and, ex_eq]
        refine ppost (q := .mk 8 [] [] 0 0 acc) (by omega) (by omega) (node_sm hacc i5) fun q0 r o1 o2 o3 => ?_
        have := many_rt c40 hI (.inl hsg) q0 r o1 o2 o3
        rwa [c41, if_pos rfl] at this
      | false =>
        simp only [go_sem, ↓reduceIte, Nat.reduceAdd, Nat.reduceSub, Nat.reduceEqDiff, Nat.reduceLT, Nat.reduceLeDiff, Nat.reduceMul, Int.reduceNeg, Int.reduceToNat, Int.reduceEq, Int.reduceLT, Int.reduceLE, reduceCtorEq, hl', hsg, c41, i2, hs', List.length_cons, List.length_nil, ex_if, ex_bool, ex_and, ex_eq]
        refine ppost (q := .mk 8 [] [] 0 0 acc) (by omega) (by omega) (node_sm hacc i5) fun q0 r o1 o2 o3 => ?_
        have := many_rt c40 hI (.inl hsg) q0 r o1 o2 o3
        rwa [c41, if_neg (by simp)] at this
  · have hl' : ¬ (acc.length : Int) ≤ 4 := by omega
    cases c41 : begM [41] (s.drop b) with
    | true =>
      have hb41 := begM_len c41
      rw [List.length_drop] at hb41
      simp only [List.length_cons, List.length_nil] at hb41
      simp only [go_sem, ↓reduceIte, Nat.reduceAdd, Nat.reduceSub, Nat.reduceEqDiff, Nat.reduceLT, Nat.reduceLeDiff, Nat.reduceMul, Int.reduceNeg, Int.reduceToNat, Int.reduceEq, Int.reduceLT, Int.reduceLE, reduceCtorEq, hl', c41, i2, hs', List.length_cons, List.length_nil, ex_if, ex_bool, ex_and, ex_eq]
      refine ppost (q := .mk 8 [] [] 0 0 acc) (by omega) (by omega) (node_sm hacc i5) fun q0 r o1 o2 o3 => ?_
      have := many_rt c40 hI (.inr (by omega)) q0 r o1 o2 o3
      rwa [c41, if_pos rfl] at this
    | false =>
      simp only [go_sem, ↓reduceIte, Nat.reduceAdd, Nat.reduceSub, Nat.reduceEqDiff, Nat.reduceLT, Nat.reduceLeDiff, Nat.reduceMul, Int.reduceNeg, Int.reduceToNat, Int.reduceEq, Int.reduceLT, Int.reduceLE, reduceCtorEq, hl', c41, i2, hs', List.length_cons, List.length_nil, ex_if, ex_bool, ex_and, ex_eq]
      refine ppost (q := .mk 8 [] [] 0 0 acc) (by omega) (by omega) (node_sm hacc i5) fun q0 r o1 o2 o3 => ?_
      have := many_rt c40 hI (.inr (by omega)) q0 r o1 o2 o3
      rwa [c41, if_neg (by simp)] at this
theorem pq_and (s : Str) (hs : s.length ≤ 200) (d k a : Nat) (hk : d + 1 + k = 5) (ha : a ≤ s.length) (ih : ∀ a : Nat, a ≤ s.length → ∃ r, R S0 99 [.pto [.str s, .int .i64 a], .int .i64 (k + 1 : Nat)] = some r ∧ PPost d s a r) (c42 : begM [42] (s.drop a) = false) (c45 : begM [45] (s.drop a) = false) (c40 : begM [40] (s.drop a) = true) {q : Query} {b : Nat} (hr1 : R S0 99 [.pto [.str s, .int .i64 (a + 1 : Nat)], .int .i64 (k + 1 : Nat)] = some ⟨[some (.pto [.str s, .int .i64 (b : Nat)]), none], .agg [.int .i64 q.kind, .str q.field, .str q.text, .int .i64 q.low, .int .i64 q.high, .slo 6 (q.parts.map pvo)]⟩) (k1 : a + 1 ≤ b) (k2 : b ≤ s.length) (k3 : q.Sm) (k4 : ∀ q0 r, okQ d q0 = true → s.drop (a + 1) = putQ q0 ++ r → Dl r → q = q0 ∧ b = a + 1 + (putQ q0).length) (hbar : begM [32, 124, 32] (s.drop b) = false) : ∃ r, R S0 99 [.pto [.str s, .int .i64 a], .int .i64 k] = some r ∧ PPost (d + 1) s a r := by
  have hs' : s.length ≤ 1000 := by omega
  have h4 : ¬ (4 : Int) < k := by omega
  have hk1 : IntKind.i64.wrap ((k : Int) + 1) = ((k + 1 : Nat) : Int) := by rw [wrap_in (by omega) (by omega)]; omega
  have hb : ∀ b : UInt8, begM [b] (s.drop a) = true → a + 1 ≤ s.length := fun b h => by
    have := begM_len h
    rw [List.length_drop] at this
    simp only [List.length_cons, List.length_nil] at this
    omega
  refine (fun ⟨r, h, hp⟩ => ⟨r, go99 rfl h, hp⟩ : (∃ r, Ends S0 _ _ r ∧ _) → _) ?_
  have h1 := hb _ c40
  have hcb : cut s (b : Int) s.length = s.drop b := cut_drop s b
  simp only [go_sem, ↓reduceIte, Nat.reduceAdd, Nat.reduceSub, Nat.reduceEqDiff, Nat.reduceLT, Nat.reduceLeDiff, Nat.reduceMul, Int.reduceNeg, Int.reduceToNat, Int.reduceEq, Int.reduceLT, Int.reduceLE, reduceCtorEq, Tryz.f99, h4, c42, c45, c40, ha, hs', hk1, hr1, hcb, hbar, k2, List.length_cons, List.length_nil, ex_if, ex_bool, ex_and, ex_eq]
  have hi : MInv 5 d s a 7 [32] [q] b := by
    have := MInv.first (B := 5) k1 k2 (by omega) k3 k4
    rw [hbar, if_neg (by simp), if_neg (by simp)] at this
    exact this
  have e1 : [PV.agg [.int .i64 q.kind, .str q.field, .str q.text, .int .i64 q.low, .int .i64 q.high, .slo 6 (q.parts.map pvo)]] = [q].map pvo := by simp [pvo_eq]
  rw [e1]
  refine ends_wx (fun x : Nat × List Query => s.length - x.1) (fun x => mkSt [(0, .addr 0 0 0), (1, .int .i64 k), (4, .addr 1 0 0), (5, .addr 2 0 0), (6, .str [32]), (1000000, .addr 0 0 0)] [.pto [.str s, .int .i64 (x.1 : Nat)], .pto [.int .i64 0, .str [], .str [], .int .i64 0, .int .i64 0, .slo 6 []], .pto [.int .i64 7, .str [], .str [], .int .i64 0, .int .i64 0, .slo 6 (x.2.map pvo)]]) (fun x => MInv 5 d s a 7 [32] x.2 x.1) (b, [q]) hi ?_
  clear hr1 k1 k2 k3 k4 hi e1
  rintro ⟨b, acc⟩ hI ihl
  simp only at hI
  obtain ⟨i1, i2, i3, i4, i5, _⟩ := id hI
  have hacc : acc.length ≤ 1099511627776 := by omega
  by_cases hl : acc.length ≤ 4
  · have hl' : (acc.length : Int) ≤ 4 := by omega
    cases hsg : begM [32] (s.drop b) with
    | true =>
      have hle := begM_len hsg
      rw [List.length_drop] at hle
      simp only [List.length_cons, List.length_nil] at hle
      have hbn : b + 1 ≤ s.length := by omega
      obtain ⟨r2, hr2, q2, c, rfl, j1, j2, j3, j4⟩ := ih (b + 1) hbn
      have h5 : (acc.length + 1) * 96 ≤ 140737488355328 := by omega
      simp only [go_sem, ↓reduceIte, Nat.reduceAdd, Nat.reduceSub, Nat.reduceEqDiff, Nat.reduceLT, Nat.reduceLeDiff, Nat.reduceMul, Int.reduceNeg, Int.reduceToNat, Int.reduceEq, Int.reduceLT, Int.reduceLE, reduceCtorEq, hl', hsg, hr2, hk1, i2, hs', h5, List.length_cons, List.length_nil, ex_if, ex_bool, ex_and, ex_eq]
      exact ⟨by omega, by decide +kernel, ihl (c, acc ++ [q2]) (by simp only; omega) (hI.step hsg j3 (by simpa using j1) j2 (by omega) j4)⟩
    | false =>
      cases c41 : begM [41] (s.drop b) with
      | true =>
        have hb41 := begM_len c41
        rw [List.length_drop] at hb41
        simp only [List.length_cons, List.length_nil] at hb41
        simp only [go_sem, ↓reduceIte, Nat.reduceAdd, Nat.reduceSub, Nat.reduceEqDiff, Nat.reduceLT, Nat.reduceLeDiff, Nat.reduceMul, Int.reduceNeg, Int.reduceToNat, Int.reduceEq, Int.reduceLT, Int.reduceLE, reduceCtorEq, hl', hsg, c41, i2, hs', List.length_cons, List.length_nil, ex_if, ex_bool, ex_and, ex_eq]
        refine ppost (q := .mk 7 [] [] 0 0 acc) (by omega) (by omega) (node_sm hacc i5) fun q0 r o1 o2 o3 => ?_
        have := many_rt c40 hI (.inl hsg) q0 r o1 o2 o3
        rwa [c41, if_pos rfl] at this
      | false =>
        simp only [go_sem, ↓reduceIte, Nat.reduceAdd, Nat.reduceSub, Nat.reduceEqDiff, Nat.reduceLT, Nat.reduceLeDiff, Nat.reduceMul, Int.reduceNeg, Int.reduceToNat, Int.reduceEq, Int.reduceLT, Int.reduceLE, reduceCtorEq, hl', hsg, c41, i2, hs', List.length_cons, List.length_nil, ex_if, ex_bool, ex_and, ex_eq]
        refine ppost (q := .mk 7 [] [] 0 0 acc) (by omega) (by omega) (node_sm hacc i5) fun q0 r o1 o2 o3 => ?_
        have := many_rt c40 hI (.inl hsg) q0 r o1 o2 o3
        rwa [c41, if_neg (by simp)] at this
  · have hl' : ¬ (acc.length : Int) ≤ 4 := by omega
    cases c41 : begM [41] (s.drop b) with
    | true =>
      have hb41 := begM_len c41
      rw [List.length_drop] at hb41
      simp only [List.length_cons, List.length_nil] at hb41
      simp only [go_sem, ↓reduceIte, Nat.reduceAdd, Nat.reduceSub, Nat.reduceEqDiff, Nat.reduceLT, Nat.reduceLeDiff, Nat.reduceMul, Int.reduceNeg, Int.reduceToNat, Int.reduceEq, Int.reduceLT, Int.reduceLE, reduceCtorEq, hl', c41, i2, hs', List.length_cons, List.length_nil, ex_if, ex_bool, ex_and, ex_eq]
      refine ppost (q := .mk 7 [] [] 0 0 acc) (by omega) (by omega) (node_sm hacc i5) fun q0 r o1 o2 o3 => ?_
      have := many_rt c40 hI (.inr (by omega)) q0 r o1 o2 o3
      rwa [c41, if_pos rfl] at this
    | false =>
      simp only [go_sem, ↓reduceIte, Nat.reduceAdd, Nat.reduceSub, Nat.reduceEqDiff, Nat.reduceLT, Nat.reduceLeDiff, Nat.reduceMul, Int.reduceNeg, Int.reduceToNat, Int.reduceEq, Int.reduceLT, Int.reduceLE, reduceCtorEq, hl', c41, i2, hs', List.length_cons, List.length_nil, ex_if, ex_bool, ex_and, ex_eq]
      refine ppost (q := .mk 7 [] [] 0 0 acc) (by omega) (by omega) (node_sm hacc i5) fun q0 r o1 o2 o3 => ?_
      have := many_rt c40 hI (.inr (by omega)) q0 r o1 o2 o3
      rwa [c41, if_neg (by simp)] at this
theorem pq_mark (s : Str) (hs : s.length ≤ 200) (d k a : Nat) (hk : d + 1 + k = 5) (ha : a ≤ s.length) (c42 : begM [42] (s.drop a) = false) (c45 : begM [45] (s.drop a) = false) (c40 : begM [40] (s.drop a) = false) (c64 : begM [64] (s.drop a) = true) : ∃ r, R S0 99 [.pto [.str s, .int .i64 a], .int .i64 k] = some r ∧ PPost (d + 1) s a r := by
  have hs' : s.length ≤ 1000 := by omega
  have h4 : ¬ (4 : Int) < k := by omega
  have hk1 : IntKind.i64.wrap ((k : Int) + 1) = ((k + 1 : Nat) : Int) := by rw [wrap_in (by omega) (by omega)]; omega
  have hb : ∀ b : UInt8, begM [b] (s.drop a) = true → a + 1 ≤ s.length := fun b h => by
    have := begM_len h
    rw [List.length_drop] at this
    simp only [List.length_cons, List.length_nil] at this
    omega
  refine (fun ⟨r, h, hp⟩ => ⟨r, go99 rfl h, hp⟩ : (∃ r, Ends S0 _ _ r ∧ _) → _) ?_
  have h1 := hb _ c64
  have u1 := upC_le (s.drop (a + 1)) 58
  rw [List.length_drop] at u1
  obtain ⟨t, ht⟩ : ∃ t, t = s.drop (a + 1) := ⟨_, rfl⟩
  obtain ⟨n, hn⟩ : ∃ n, n = (upC (s.drop (a + 1)) 58).2 := ⟨_, rfl⟩
  have h2 : a + 1 + (upC (s.drop (a + 1)) 58).2 ≤ s.length := by omega
  cases c123 : begM [123] (s.drop (a + 1 + (upC (s.drop (a + 1)) 58).2)) with
  | true =>
    have h3 : a + 1 + (upC (s.drop (a + 1)) 58).2 + 1 ≤ s.length := by
      have := begM_len c123
      rw [List.length_drop] at this
      simp only [List.length_cons, List.length_nil] at this
      omega
    have u2 := upC_le (s.drop (a + 1 + (upC (s.drop (a + 1)) 58).2 + 1)) 125
    rw [List.length_drop] at u2
    have e : markC (s.drop (a + 1)) = (.mk 6 (upC (s.drop (a + 1)) 58).1 (upC (s.drop (a + 1 + (upC (s.drop (a + 1)) 58).2 + 1)) 125).1 0 0 [], (upC (s.drop (a + 1)) 58).2 + 1 + (upC (s.drop (a + 1 + (upC (s.drop (a + 1)) 58).2 + 1)) 125).2) := by
      simp only [markC, List.drop_drop, ← Nat.add_assoc, c123, if_true]
    have hrt := mark_rt (d := d) c64 e
    simp only [go_sem, ↓reduceIte, Nat.reduceAdd, Nat.reduceSub, Nat.reduceEqDiff, Nat.reduceLT, Nat.reduceLeDiff, Nat.reduceMul, Int.reduceNeg, Int.reduceToNat, Int.reduceEq, Int.reduceLT, Int.reduceLE, reduceCtorEq, Tryz.f99, h4, c42, c45, c40, c64, ha, hs', h1, h2, h3, c123, List.length_cons, List.length_nil, ex_if, ex_bool, ex_and, ex_eq]
    refine ppost (q := .mk 6 _ _ 0 0 []) (by omega) (by omega) (leaf_sm (by omega) (by omega)) fun q0 r o1 o2 o3 => ?_
    obtain ⟨g1, g2⟩ := hrt q0 r o1 o2 o3
    exact ⟨g1, by omega⟩
  | false =>
    have u2 := numC_le (s.drop (a + 1 + (upC (s.drop (a + 1)) 58).2))
    rw [List.length_drop] at u2
    have h3 : a + 1 + (upC (s.drop (a + 1)) 58).2 + (numC (s.drop (a + 1 + (upC (s.drop (a + 1)) 58).2))).2 ≤ s.length := by omega
    cases c46 : begM [46, 46] (s.drop (a + 1 + (upC (s.drop (a + 1)) 58).2 + (numC (s.drop (a + 1 + (upC (s.drop (a + 1)) 58).2))).2)) with
    | true =>
      have h5 : a + 1 + (upC (s.drop (a + 1)) 58).2 + (numC (s.drop (a + 1 + (upC (s.drop (a + 1)) 58).2))).2 + 2 ≤ s.length := by
        have := begM_len c46
        rw [List.length_drop] at this
        simp only [List.length_cons, List.length_nil] at this
        omega
      have u3 := numC_le (s.drop (a + 1 + (upC (s.drop (a + 1)) 58).2 + (numC (s.drop (a + 1 + (upC (s.drop (a + 1)) 58).2))).2 + 2))
      rw [List.length_drop] at u3
      have e : markC (s.drop (a + 1)) = (.mk 5 (upC (s.drop (a + 1)) 58).1 [] (numC (s.drop (a + 1 + (upC (s.drop (a + 1)) 58).2))).1 (numC (s.drop (a + 1 + (upC (s.drop (a + 1)) 58).2 + (numC (s.drop (a + 1 + (upC (s.drop (a + 1)) 58).2))).2 + 2))).1 [], (upC (s.drop (a + 1)) 58).2 + (numC (s.drop (a + 1 + (upC (s.drop (a + 1)) 58).2))).2 + 2 + (numC (s.drop (a + 1 + (upC (s.drop (a + 1)) 58).2 + (numC (s.drop (a + 1 + (upC (s.drop (a + 1)) 58).2))).2 + 2))).2) := by
        simp only [markC, List.drop_drop, ← Nat.add_assoc, c123, c46, if_true, if_false, Bool.false_eq_true]
      have hrt := mark_rt (d := d) c64 e
      simp only [go_sem, ↓reduceIte, Nat.reduceAdd, Nat.reduceSub, Nat.reduceEqDiff, Nat.reduceLT, Nat.reduceLeDiff, Nat.reduceMul, Int.reduceNeg, Int.reduceToNat, Int.reduceEq, Int.reduceLT, Int.reduceLE, reduceCtorEq, Tryz.f99, h4, c42, c45, c40, c64, ha, hs', h1, h2, h3, h5, c123, c46, List.length_cons, List.length_nil, ex_if, ex_bool, ex_and, ex_eq]
      refine ppost (q := .mk 5 _ [] _ _ []) (by omega) (by omega) (leaf_sm (by omega) (by simp)) fun q0 r o1 o2 o3 => ?_
      obtain ⟨g1, g2⟩ := hrt q0 r o1 o2 o3
      exact ⟨g1, by omega⟩
    | false =>
      have u3 := numC_le (s.drop (a + 1 + (upC (s.drop (a + 1)) 58).2 + (numC (s.drop (a + 1 + (upC (s.drop (a + 1)) 58).2))).2))
      rw [List.length_drop] at u3
      have e : markC (s.drop (a + 1)) = (.mk 5 (upC (s.drop (a + 1)) 58).1 [] (numC (s.drop (a + 1 + (upC (s.drop (a + 1)) 58).2))).1 (numC (s.drop (a + 1 + (upC (s.drop (a + 1)) 58).2 + (numC (s.drop (a + 1 + (upC (s.drop (a + 1)) 58).2))).2))).1 [], (upC (s.drop (a + 1)) 58).2 + (numC (s.drop (a + 1 + (upC (s.drop (a + 1)) 58).2))).2 + (numC (s.drop (a + 1 + (upC (s.drop (a + 1)) 58).2 + (numC (s.drop (a + 1 + (upC (s.drop (a + 1)) 58).2))).2))).2) := by
        simp only [markC, List.drop_drop, ← Nat.add_assoc, c123, c46, if_true, if_false, Bool.false_eq_true]
      have hrt := mark_rt (d := d) c64 e
      simp only [go_sem, ↓reduceIte, Nat.reduceAdd, Nat.reduceSub, Nat.reduceEqDiff, Nat.reduceLT, Nat.reduceLeDiff, Nat.reduceMul, Int.reduceNeg, Int.reduceToNat, Int.reduceEq, Int.reduceLT, Int.reduceLE, reduceCtorEq, Tryz.f99, h4, c42, c45, c40, c64, ha, hs', h1, h2, h3, c123, c46, List.length_cons, List.length_nil, ex_if, ex_bool, ex_and, ex_eq]
      refine ppost (q := .mk 5 _ [] _ _ []) (by omega) (by omega) (leaf_sm (by omega) (by simp)) fun q0 r o1 o2 o3 => ?_
      obtain ⟨g1, g2⟩ := hrt q0 r o1 o2 o3
      exact ⟨g1, by omega⟩
theorem pq_word (s : Str) (hs : s.length ≤ 200) (d k a : Nat) (hk : d + 1 + k = 5) (ha : a ≤ s.length) (c42 : begM [42] (s.drop a) = false) (c45 : begM [45] (s.drop a) = false) (c40 : begM [40] (s.drop a) = false) (c64 : begM [64] (s.drop a) = false) : ∃ r, R S0 99 [.pto [.str s, .int .i64 a], .int .i64 k] = some r ∧ PPost (d + 1) s a r := by
  have hs' : s.length ≤ 1000 := by omega
  have h4 : ¬ (4 : Int) < k := by omega
  have hk1 : IntKind.i64.wrap ((k : Int) + 1) = ((k + 1 : Nat) : Int) := by rw [wrap_in (by omega) (by omega)]; omega
  have hb : ∀ b : UInt8, begM [b] (s.drop a) = true → a + 1 ≤ s.length := fun b h => by
    have := begM_len h
    rw [List.length_drop] at this
    simp only [List.length_cons, List.length_nil] at this
    omega
  refine (fun ⟨r, h, hp⟩ => ⟨r, go99 rfl h, hp⟩ : (∃ r, Ends S0 _ _ r ∧ _) → _) ?_
  have hca : cut s (a : Int) s.length = s.drop a := cut_drop s a
  cases c34 : begM [34] (s.drop a) with
  | true =>
    have h1 := hb _ c34
    have uu := upC_le (s.drop (a + 1)) 34
    rw [List.length_drop] at uu
    have e : wordC (s.drop a) = (.mk 3 [] (upC (s.drop (a + 1)) 34).1 0 0 [], 1 + (upC (s.drop (a + 1)) 34).2) := by
      simp only [wordC, List.drop_drop, ← Nat.add_assoc, c34, if_true, if_false, Bool.false_eq_true, Bool.not_true, Bool.not_false, Bool.false_and, Bool.true_and, and_true, and_false, true_and, false_and, List.drop_zero, Nat.zero_add, Nat.add_zero, reduceCtorEq]
    have hrt := word_rt (d := d) c42 c45 c40 c64 e
    simp only [go_sem, ↓reduceIte, Nat.reduceAdd, Nat.reduceSub, Nat.reduceEqDiff, Nat.reduceLT, Nat.reduceLeDiff, Nat.reduceMul, Int.reduceNeg, Int.reduceToNat, Int.reduceEq, Int.reduceLT, Int.reduceLE, reduceCtorEq, Tryz.f99, h4, c42, c45, c40, c64, ha, hs', hca, h1, c34, List.length_cons, List.length_nil, ex_if, ex_bool, ex_and, ex_eq]
    refine ppost (q := .mk 3 [] (upC (s.drop (a + 1)) 34).1 0 0 []) (by omega) (by omega) (leaf_sm (by simp) (by omega)) fun q0 r o1 o2 o3 => ?_
    obtain ⟨g1, g2⟩ := hrt q0 r o1 o2 o3
    exact ⟨g1, by omega⟩
  | false =>
    have r1 := run_le (s.drop a)
    rw [List.length_drop] at r1
    have h1 : a + run (s.drop a) ≤ s.length := by omega
    cases c58 : begM [58] (s.drop (a + run (s.drop a))) with
    | true =>
      have h2 : a + run (s.drop a) + 1 ≤ s.length := by
        have := begM_len c58
        rw [List.length_drop] at this
        simp only [List.length_cons, List.length_nil] at this
        omega
      have r2 := run_le (s.drop (a + run (s.drop a) + 1))
      rw [List.length_drop] at r2
      have h3 : a + run (s.drop a) + 1 + run (s.drop (a + run (s.drop a) + 1)) ≤ s.length := by omega
      by_cases hw : (s.drop (a + run (s.drop a) + 1)).take (run (s.drop (a + run (s.drop a) + 1))) = []
      · cases c34b : begM [34] (s.drop (a + run (s.drop a) + 1 + run (s.drop (a + run (s.drop a) + 1)))) with
        | true =>
          have h7 : a + run (s.drop a) + 1 + run (s.drop (a + run (s.drop a) + 1)) + 1 ≤ s.length := by
            have := begM_len c34b
            rw [List.length_drop] at this
            simp only [List.length_cons, List.length_nil] at this
            omega
          have uu := upC_le (s.drop (a + run (s.drop a) + 1 + run (s.drop (a + run (s.drop a) + 1)) + 1)) 34
          rw [List.length_drop] at uu
          have e : wordC (s.drop a) = (.mk 3 ((s.drop a).take (run (s.drop a))) (upC (s.drop (a + run (s.drop a) + 1 + run (s.drop (a + run (s.drop a) + 1)) + 1)) 34).1 0 0 [], run (s.drop a) + 1 + run (s.drop (a + run (s.drop a) + 1)) + 1 + (upC (s.drop (a + run (s.drop a) + 1 + run (s.drop (a + run (s.drop a) + 1)) + 1)) 34).2) := by
            simp only [wordC, List.drop_drop, ← Nat.add_assoc, c34, c58, hw, c34b, if_true, if_false, Bool.false_eq_true, Bool.not_true, Bool.not_false, Bool.false_and, Bool.true_and, and_true, and_false, true_and, false_and, List.drop_zero, Nat.zero_add, Nat.add_zero, reduceCtorEq]
          have hrt := word_rt (d := d) c42 c45 c40 c64 e
          simp only [go_sem, ↓reduceIte, Nat.reduceAdd, Nat.reduceSub, Nat.reduceEqDiff, Nat.reduceLT, Nat.reduceLeDiff, Nat.reduceMul, Int.reduceNeg, Int.reduceToNat, Int.reduceEq, Int.reduceLT, Int.reduceLE, reduceCtorEq, Tryz.f99, h4, c42, c45, c40, c64, ha, hs', hca, c34, c58, h1, h2, h3, hw, c34b, h7, List.length_cons, List.length_nil, ex_if, ex_bool, ex_and, ex_eq]
          refine ppost (q := .mk 3 ((s.drop a).take (run (s.drop a))) (upC (s.drop (a + run (s.drop a) + 1 + run (s.drop (a + run (s.drop a) + 1)) + 1)) 34).1 0 0 []) (by omega) (by omega) (leaf_sm (by rw [List.length_take, List.length_drop]; omega) (by omega)) fun q0 r o1 o2 o3 => ?_
          obtain ⟨g1, g2⟩ := hrt q0 r o1 o2 o3
          exact ⟨g1, by omega⟩
        | false =>
          cases c42b : begM [42] (s.drop (a + run (s.drop a) + 1 + run (s.drop (a + run (s.drop a) + 1)))) with
          | true =>
            have h7 : a + run (s.drop a) + 1 + run (s.drop (a + run (s.drop a) + 1)) + 1 ≤ s.length := by
              have := begM_len c42b
              rw [List.length_drop] at this
              simp only [List.length_cons, List.length_nil] at this
              omega
            have e : wordC (s.drop a) = (.mk 4 ((s.drop a).take (run (s.drop a))) [] 0 0 [], run (s.drop a) + 1 + run (s.drop (a + run (s.drop a) + 1)) + 1) := by
              simp only [wordC, List.drop_drop, ← Nat.add_assoc, c34, c58, hw, c34b, c42b, if_true, if_false, Bool.false_eq_true, Bool.not_true, Bool.not_false, Bool.false_and, Bool.true_and, and_true, and_false, true_and, false_and, List.drop_zero, Nat.zero_add, Nat.add_zero, reduceCtorEq]
            have hrt := word_rt (d := d) c42 c45 c40 c64 e
            simp only [go_sem, ↓reduceIte, Nat.reduceAdd, Nat.reduceSub, Nat.reduceEqDiff, Nat.reduceLT, Nat.reduceLeDiff, Nat.reduceMul, Int.reduceNeg, Int.reduceToNat, Int.reduceEq, Int.reduceLT, Int.reduceLE, reduceCtorEq, Tryz.f99, h4, c42, c45, c40, c64, ha, hs', hca, c34, c58, h1, h2, h3, hw, c34b, c42b, h7, List.length_cons, List.length_nil, ex_if, ex_bool, ex_and, ex_eq]
            refine ppost (q := .mk 4 ((s.drop a).take (run (s.drop a))) [] 0 0 []) (by omega) (by omega) (leaf_sm (by rw [List.length_take, List.length_drop]; omega) (by simp)) fun q0 r o1 o2 o3 => ?_
            obtain ⟨g1, g2⟩ := hrt q0 r o1 o2 o3
            exact ⟨g1, by omega⟩
          | false =>
            have e : wordC (s.drop a) = (.mk 2 ((s.drop a).take (run (s.drop a))) [] 0 0 [], run (s.drop a) + 1 + run (s.drop (a + run (s.drop a) + 1))) := by
              simp only [wordC, List.drop_drop, ← Nat.add_assoc, c34, c58, hw, c34b, c42b, if_true, if_false, Bool.false_eq_true, Bool.not_true, Bool.not_false, Bool.false_and, Bool.true_and, and_true, and_false, true_and, false_and, List.drop_zero, Nat.zero_add, Nat.add_zero, reduceCtorEq]
            have hrt := word_rt (d := d) c42 c45 c40 c64 e
            simp only [go_sem, ↓reduceIte, Nat.reduceAdd, Nat.reduceSub, Nat.reduceEqDiff, Nat.reduceLT, Nat.reduceLeDiff, Nat.reduceMul, Int.reduceNeg, Int.reduceToNat, Int.reduceEq, Int.reduceLT, Int.reduceLE, reduceCtorEq, Tryz.f99, h4, c42, c45, c40, c64, ha, hs', hca, c34, c58, h1, h2, h3, hw, c34b, c42b, List.length_cons, List.length_nil, ex_if, ex_bool, ex_and, ex_eq]
            refine ppost (q := .mk 2 ((s.drop a).take (run (s.drop a))) [] 0 0 []) (by omega) (by omega) (leaf_sm (by rw [List.length_take, List.length_drop]; omega) (by simp)) fun q0 r o1 o2 o3 => ?_
            obtain ⟨g1, g2⟩ := hrt q0 r o1 o2 o3
            exact ⟨g1, by omega⟩
      · cases c42b : begM [42] (s.drop (a + run (s.drop a) + 1 + run (s.drop (a + run (s.drop a) + 1)))) with
        | true =>
          have h7 : a + run (s.drop a) + 1 + run (s.drop (a + run (s.drop a) + 1)) + 1 ≤ s.length := by
            have := begM_len c42b
            rw [List.length_drop] at this
            simp only [List.length_cons, List.length_nil] at this
            omega
          have e : wordC (s.drop a) = (.mk 4 ((s.drop a).take (run (s.drop a))) ((s.drop (a + run (s.drop a) + 1)).take (run (s.drop (a + run (s.drop a) + 1)))) 0 0 [], run (s.drop a) + 1 + run (s.drop (a + run (s.drop a) + 1)) + 1) := by
            simp only [wordC, List.drop_drop, ← Nat.add_assoc, c34, c58, hw, c42b, if_true, if_false, Bool.false_eq_true, Bool.not_true, Bool.not_false, Bool.false_and, Bool.true_and, and_true, and_false, true_and, false_and, List.drop_zero, Nat.zero_add, Nat.add_zero, reduceCtorEq]
          have hrt := word_rt (d := d) c42 c45 c40 c64 e
          simp only [go_sem, ↓reduceIte, Nat.reduceAdd, Nat.reduceSub, Nat.reduceEqDiff, Nat.reduceLT, Nat.reduceLeDiff, Nat.reduceMul, Int.reduceNeg, Int.reduceToNat, Int.reduceEq, Int.reduceLT, Int.reduceLE, reduceCtorEq, Tryz.f99, h4, c42, c45, c40, c64, ha, hs', hca, c34, c58, h1, h2, h3, hw, c42b, h7, List.length_cons, List.length_nil, ex_if, ex_bool, ex_and, ex_eq]
          refine ppost (q := .mk 4 ((s.drop a).take (run (s.drop a))) ((s.drop (a + run (s.drop a) + 1)).take (run (s.drop (a + run (s.drop a) + 1)))) 0 0 []) (by omega) (by omega) (leaf_sm (by rw [List.length_take, List.length_drop]; omega) (by rw [List.length_take, List.length_drop]; omega)) fun q0 r o1 o2 o3 => ?_
          obtain ⟨g1, g2⟩ := hrt q0 r o1 o2 o3
          exact ⟨g1, by omega⟩
        | false =>
          have e : wordC (s.drop a) = (.mk 2 ((s.drop a).take (run (s.drop a))) ((s.drop (a + run (s.drop a) + 1)).take (run (s.drop (a + run (s.drop a) + 1)))) 0 0 [], run (s.drop a) + 1 + run (s.drop (a + run (s.drop a) + 1))) := by
            simp only [wordC, List.drop_drop, ← Nat.add_assoc, c34, c58, hw, c42b, if_true, if_false, Bool.false_eq_true, Bool.not_true, Bool.not_false, Bool.false_and, Bool.true_and, and_true, and_false, true_and, false_and, List.drop_zero, Nat.zero_add, Nat.add_zero, reduceCtorEq]
          have hrt := word_rt (d := d) c42 c45 c40 c64 e
          simp only [go_sem, ↓reduceIte, Nat.reduceAdd, Nat.reduceSub, Nat.reduceEqDiff, Nat.reduceLT, Nat.reduceLeDiff, Nat.reduceMul, Int.reduceNeg, Int.reduceToNat, Int.reduceEq, Int.reduceLT, Int.reduceLE, reduceCtorEq, Tryz.f99, h4, c42, c45, c40, c64, ha, hs', hca, c34, c58, h1, h2, h3, hw, c42b, List.length_cons, List.length_nil, ex_if, ex_bool, ex_and, ex_eq]
          refine ppost (q := .mk 2 ((s.drop a).take (run (s.drop a))) ((s.drop (a + run (s.drop a) + 1)).take (run (s.drop (a + run (s.drop a) + 1)))) 0 0 []) (by omega) (by omega) (leaf_sm (by rw [List.length_take, List.length_drop]; omega) (by rw [List.length_take, List.length_drop]; omega)) fun q0 r o1 o2 o3 => ?_
          obtain ⟨g1, g2⟩ := hrt q0 r o1 o2 o3
          exact ⟨g1, by omega⟩
    | false =>
      by_cases hw : (s.drop a).take (run (s.drop a)) = []
      · cases c34b : begM [34] (s.drop (a + run (s.drop a))) with
        | true =>
          have h7 : a + run (s.drop a) + 1 ≤ s.length := by
            have := begM_len c34b
            rw [List.length_drop] at this
            simp only [List.length_cons, List.length_nil] at this
            omega
          have uu := upC_le (s.drop (a + run (s.drop a) + 1)) 34
          rw [List.length_drop] at uu
          have e : wordC (s.drop a) = (.mk 3 [] (upC (s.drop (a + run (s.drop a) + 1)) 34).1 0 0 [], run (s.drop a) + 1 + (upC (s.drop (a + run (s.drop a) + 1)) 34).2) := by
            simp only [wordC, List.drop_drop, ← Nat.add_assoc, c34, c58, hw, c34b, if_true, if_false, Bool.false_eq_true, Bool.not_true, Bool.not_false, Bool.false_and, Bool.true_and, and_true, and_false, true_and, false_and, List.drop_zero, Nat.zero_add, Nat.add_zero, reduceCtorEq]
          have hrt := word_rt (d := d) c42 c45 c40 c64 e
          simp only [go_sem, ↓reduceIte, Nat.reduceAdd, Nat.reduceSub, Nat.reduceEqDiff, Nat.reduceLT, Nat.reduceLeDiff, Nat.reduceMul, Int.reduceNeg, Int.reduceToNat, Int.reduceEq, Int.reduceLT, Int.reduceLE, reduceCtorEq, Tryz.f99, h4, c42, c45, c40, c64, ha, hs', hca, c34, c58, h1, hw, c34b, h7, List.length_cons, List.length_nil, ex_if, ex_bool, ex_and, ex_eq]
          refine ppost (q := .mk 3 [] (upC (s.drop (a + run (s.drop a) + 1)) 34).1 0 0 []) (by omega) (by omega) (leaf_sm (by simp) (by omega)) fun q0 r o1 o2 o3 => ?_
          obtain ⟨g1, g2⟩ := hrt q0 r o1 o2 o3
          exact ⟨g1, by omega⟩
        | false =>
          cases c42b : begM [42] (s.drop (a + run (s.drop a))) with
          | true =>
            have h7 : a + run (s.drop a) + 1 ≤ s.length := by
              have := begM_len c42b
              rw [List.length_drop] at this
              simp only [List.length_cons, List.length_nil] at this
              omega
            have e : wordC (s.drop a) = (.mk 4 [] [] 0 0 [], run (s.drop a) + 1) := by
              simp only [wordC, List.drop_drop, ← Nat.add_assoc, c34, c58, hw, c34b, c42b, if_true, if_false, Bool.false_eq_true, Bool.not_true, Bool.not_false, Bool.false_and, Bool.true_and, and_true, and_false, true_and, false_and, List.drop_zero, Nat.zero_add, Nat.add_zero, reduceCtorEq]
            have hrt := word_rt (d := d) c42 c45 c40 c64 e
            simp only [go_sem, ↓reduceIte, Nat.reduceAdd, Nat.reduceSub, Nat.reduceEqDiff, Nat.reduceLT, Nat.reduceLeDiff, Nat.reduceMul, Int.reduceNeg, Int.reduceToNat, Int.reduceEq, Int.reduceLT, Int.reduceLE, reduceCtorEq, Tryz.f99, h4, c42, c45, c40, c64, ha, hs', hca, c34, c58, h1, hw, c34b, c42b, h7, List.length_cons, List.length_nil, ex_if, ex_bool, ex_and, ex_eq]
            refine ppost (q := .mk 4 [] [] 0 0 []) (by omega) (by omega) (leaf_sm (by simp) (by simp)) fun q0 r o1 o2 o3 => ?_
            obtain ⟨g1, g2⟩ := hrt q0 r o1 o2 o3
            exact ⟨g1, by omega⟩
          | false =>
            have e : wordC (s.drop a) = (.mk 2 [] [] 0 0 [], run (s.drop a)) := by
              simp only [wordC, List.drop_drop, ← Nat.add_assoc, c34, c58, hw, c34b, c42b, if_true, if_false, Bool.false_eq_true, Bool.not_true, Bool.not_false, Bool.false_and, Bool.true_and, and_true, and_false, true_and, false_and, List.drop_zero, Nat.zero_add, Nat.add_zero, reduceCtorEq]
            have hrt := word_rt (d := d) c42 c45 c40 c64 e
            simp only [go_sem, ↓reduceIte, Nat.reduceAdd, Nat.reduceSub, Nat.reduceEqDiff, Nat.reduceLT, Nat.reduceLeDiff, Nat.reduceMul, Int.reduceNeg, Int.reduceToNat, Int.reduceEq, Int.reduceLT, Int.reduceLE, reduceCtorEq, Tryz.f99, h4, c42, c45, c40, c64, ha, hs', hca, c34, c58, h1, hw, c34b, c42b, List.length_cons, List.length_nil, ex_if, ex_bool, ex_and, ex_eq]
            refine ppost (q := .mk 2 [] [] 0 0 []) (by omega) (by omega) (leaf_sm (by simp) (by simp)) fun q0 r o1 o2 o3 => ?_
            obtain ⟨g1, g2⟩ := hrt q0 r o1 o2 o3
            exact ⟨g1, by omega⟩
      · cases c42b : begM [42] (s.drop (a + run (s.drop a))) with
        | true =>
          have h7 : a + run (s.drop a) + 1 ≤ s.length := by
            have := begM_len c42b
            rw [List.length_drop] at this
            simp only [List.length_cons, List.length_nil] at this
            omega
          have e : wordC (s.drop a) = (.mk 4 [] ((s.drop a).take (run (s.drop a))) 0 0 [], run (s.drop a) + 1) := by
            simp only [wordC, List.drop_drop, ← Nat.add_assoc, c34, c58, hw, c42b, if_true, if_false, Bool.false_eq_true, Bool.not_true, Bool.not_false, Bool.false_and, Bool.true_and, and_true, and_false, true_and, false_and, List.drop_zero, Nat.zero_add, Nat.add_zero, reduceCtorEq]
          have hrt := word_rt (d := d) c42 c45 c40 c64 e
          simp only [go_sem, ↓reduceIte, Nat.reduceAdd, Nat.reduceSub, Nat.reduceEqDiff, Nat.reduceLT, Nat.reduceLeDiff, Nat.reduceMul, Int.reduceNeg, Int.reduceToNat, Int.reduceEq, Int.reduceLT, Int.reduceLE, reduceCtorEq, Tryz.f99, h4, c42, c45, c40, c64, ha, hs', hca, c34, c58, h1, hw, c42b, h7, List.length_cons, List.length_nil, ex_if, ex_bool, ex_and, ex_eq]
          refine ppost (q := .mk 4 [] ((s.drop a).take (run (s.drop a))) 0 0 []) (by omega) (by omega) (leaf_sm (by simp) (by rw [List.length_take, List.length_drop]; omega)) fun q0 r o1 o2 o3 => ?_
          obtain ⟨g1, g2⟩ := hrt q0 r o1 o2 o3
          exact ⟨g1, by omega⟩
        | false =>
          have e : wordC (s.drop a) = (.mk 2 [] ((s.drop a).take (run (s.drop a))) 0 0 [], run (s.drop a)) := by
            simp only [wordC, List.drop_drop, ← Nat.add_assoc, c34, c58, hw, c42b, if_true, if_false, Bool.false_eq_true, Bool.not_true, Bool.not_false, Bool.false_and, Bool.true_and, and_true, and_false, true_and, false_and, List.drop_zero, Nat.zero_add, Nat.add_zero, reduceCtorEq]
          have hrt := word_rt (d := d) c42 c45 c40 c64 e
          simp only [go_sem, ↓reduceIte, Nat.reduceAdd, Nat.reduceSub, Nat.reduceEqDiff, Nat.reduceLT, Nat.reduceLeDiff, Nat.reduceMul, Int.reduceNeg, Int.reduceToNat, Int.reduceEq, Int.reduceLT, Int.reduceLE, reduceCtorEq, Tryz.f99, h4, c42, c45, c40, c64, ha, hs', hca, c34, c58, h1, hw, c42b, List.length_cons, List.length_nil, ex_if, ex_bool, ex_and, ex_eq]
          refine ppost (q := .mk 2 [] ((s.drop a).take (run (s.drop a))) 0 0 []) (by omega) (by omega) (leaf_sm (by simp) (by rw [List.length_take, List.length_drop]; omega)) fun q0 r o1 o2 o3 => ?_
          obtain ⟨g1, g2⟩ := hrt q0 r o1 o2 o3
          exact ⟨g1, by omega⟩
theorem pquery_ex (s : Str) (hs : s.length ≤ 200) (d : Nat) : ∀ k a : Nat, d + k = 5 → a ≤ s.length → ∃ r, R S0 99 [.pto [.str s, .int .i64 a], .int .i64 k] = some r ∧ PPost d s a r := by
  have hs' : s.length ≤ 1000 := by omega
  induction d with
  | zero =>
    intro k a hk ha
    have h4 : (4 : Int) < k := by omega
    refine (fun ⟨r, h, hp⟩ => ⟨r, go99 rfl h, hp⟩ : (∃ r, Ends S0 _ _ r ∧ _) → _) ?_
    simp only [go_sem, ↓reduceIte, Nat.reduceAdd, Nat.reduceSub, Nat.reduceEqDiff, Nat.reduceLT, Nat.reduceLeDiff, Nat.reduceMul, Int.reduceNeg, Int.reduceToNat, Int.reduceEq, Int.reduceLT, Int.reduceLE, reduceCtorEq, Tryz.f99, h4, ex_if, ex_bool, ex_and, ex_eq]
    exact ppost (q := .mk 0 [] [] 0 0 []) (Nat.le_refl _) ha (leaf_sm (by simp) (by simp)) fun q0 r h => by cases h
  | succ d ih =>
    intro k a hk ha
    have ih' : ∀ a : Nat, a ≤ s.length → ∃ r, R S0 99 [.pto [.str s, .int .i64 a], .int .i64 (k + 1 : Nat)] = some r ∧ PPost d s a r := fun a ha => ih (k + 1) a (by omega) ha
    cases c42 : begM [42] (s.drop a) with
    | true => exact pq_star s hs d k a hk ha c42
    | false =>
    cases c45 : begM [45] (s.drop a) with
    | true => exact pq_not s hs d k a hk ha ih' c42 c45
    | false =>
    cases c40 : begM [40] (s.drop a) with
    | true =>
      have h1 : a + 1 ≤ s.length := by
        have := begM_len c40
        rw [List.length_drop] at this
        simp only [List.length_cons, List.length_nil] at this
        omega
      obtain ⟨r1, hr1, q, b, rfl, k1, k2, k3, k4⟩ := ih' (a + 1) h1
      cases hbar : begM [32, 124, 32] (s.drop b) with
      | true => exact pq_or s hs d k a hk ha ih' c42 c45 c40 hr1 k1 k2 k3 k4 hbar
      | false => exact pq_and s hs d k a hk ha ih' c42 c45 c40 hr1 k1 k2 k3 k4 hbar
    | false =>
    cases c64 : begM [64] (s.drop a) with
    | true => exact pq_mark s hs d k a hk ha c42 c45 c40 c64
    | false => exact pq_word s hs d k a hk ha c42 c45 c40 c64
end Go.Proofs.YtmanllfmgghadaaGreatDoor.PVE
