/- Turned questions, copies, marks. -/
import Derived.Test.YtanbccpabgcmaaaGreatDoorT7
set_option linter.unusedVariables false
set_option linter.unusedSimpArgs false
set_option maxRecDepth 100000
namespace Go.Proofs.YtanbccpabgcmaaaGreatDoor.PVE
open PV Query
@[go_sem] theorem Query.snocv (l : List Query) (a lo hi : Int) (b c : Str) (m : List Query) : l.map pv ++ [.agg [.int .i64 a, .str b, .str c, .int .i64 lo, .int .i64 hi, .sl (m.map pv)]] = (l ++ [Query.mk a b c lo hi m]).map pv := by simp [pv_eq, Query.kind, Query.field, Query.text, Query.low, Query.high, Query.parts]
@[go_sem] theorem Query.kind_mk (k lo hi : Int) (f t : Str) (p : List Query) : (Query.mk k f t lo hi p).kind = k := rfl
@[go_sem] theorem Query.field_mk (k lo hi : Int) (f t : Str) (p : List Query) : (Query.mk k f t lo hi p).field = f := rfl
@[go_sem] theorem Query.text_mk (k lo hi : Int) (f t : Str) (p : List Query) : (Query.mk k f t lo hi p).text = t := rfl
@[go_sem] theorem Query.low_mk (k lo hi : Int) (f t : Str) (p : List Query) : (Query.mk k f t lo hi p).low = lo := rfl
@[go_sem] theorem Query.high_mk (k lo hi : Int) (f t : Str) (p : List Query) : (Query.mk k f t lo hi p).high = hi := rfl
@[go_sem] theorem Query.parts_mk (k lo hi : Int) (f t : Str) (p : List Query) : (Query.mk k f t lo hi p).parts = p := rfl
mutual
/-- The denial of a question. -/
def turnQ : Query → Query
  | .mk k f t lo hi p => if k = 9 then p.headD zeroQ else if k = 7 ∨ k = 8 then .mk (15 - k) [] [] 0 0 (turnL p) else .mk 9 [] [] 0 0 [.mk k f t lo hi p]
def turnL : List Query → List Query
  | [] => []
  | q :: l => turnQ q :: turnL l
end
theorem turnL_map : ∀ l, turnL l = l.map turnQ
  | [] => rfl
  | q :: l => by rw [turnL, turnL_map l]; rfl
theorem turnQ_eq : ∀ q : Query, turnQ q = if q.kind = 9 then q.parts.headD zeroQ else if q.kind = 7 ∨ q.kind = 8 then .mk (15 - q.kind) [] [] 0 0 (q.parts.map turnQ) else .mk 9 [] [] 0 0 [q]
  | .mk k f t lo hi p => by rw [turnQ, turnL_map]; rfl
theorem nodeOk_nine {q : Query} (h : nodeOk q = true) (hk : q.kind = 9) : ∃ p, q.parts = [p] := by
  unfold nodeOk at h
  split at h
  · unfold leafOk at h
    simp [hk] at h
  · simp [hk] at h
    exact List.length_eq_one_iff.1 h.1.1.1.1
theorem clone_R (q : Query) : q.Sm → R S0 85 [.agg [.int .i64 q.kind, .str q.field, .str q.text, .int .i64 q.low, .int .i64 q.high, .sl (q.parts.map pv)]] = some ⟨[none], .agg [.int .i64 q.kind, .str q.field, .str q.text, .int .i64 q.low, .int .i64 q.high, .slo 6 (q.parts.map pvo)]⟩ := by
  refine Query.ind (P := fun q => q.Sm → R S0 85 [.agg [.int .i64 q.kind, .str q.field, .str q.text, .int .i64 q.low, .int .i64 q.high, .sl (q.parts.map pv)]] = some ⟨[none], .agg [.int .i64 q.kind, .str q.field, .str q.text, .int .i64 q.low, .int .i64 q.high, .slo 6 (q.parts.map pvo)]⟩) (fun q ih hq => ?_) q
  obtain ⟨_, hf, ht, hp, hs⟩ := hq
  refine go85 rfl ?_; simp only [go_sem, ↓reduceIte, Nat.reduceAdd, Nat.reduceSub, Nat.reduceEqDiff, Nat.reduceLT, Nat.reduceLeDiff, Nat.reduceMul, Int.reduceNeg, Int.reduceToNat, Int.reduceEq, Int.reduceLT, Int.reduceLE, reduceCtorEq, Tryz.f85]
  refine ends_for q.parts.length (by omega) (fun i (x : List Query) => mkSt [(1, .addr 0 0 0), (2, .addr 1 0 0), (3, .own 2), (8, .sl (q.parts.map pv)), (9, .int .i64 q.parts.length), (10, .int .i64 i)] [.pto [.int .i64 q.kind, .str q.field, .str q.text, .int .i64 q.low, .int .i64 q.high, .sl (q.parts.map pv)], .pto [.int .i64 0, .str [], .str [], .int .i64 0, .int .i64 0, .slo 6 []], .slo 6 (x.map pvo)]) (fun i x => x = q.parts.take i) 0 [] (by omega) rfl ?_ ?_
  · rintro i x hi hI hw ihl
    obtain ⟨y, hy, hg, hd⟩ := drop_get hi default
    have hr := ih y (List.mem_of_getElem? hy) (hs y (List.mem_of_getElem? hy))
    have hxl : x.length = i := by rw [hI]; simp; omega
    have h1 : (i + 1) * 96 ≤ 140737488355328 := by omega
    have h2 : (i + 1) * 80 ≤ 140737488355328 := by omega
    simp only [go_sem, ↓reduceIte, Nat.reduceAdd, Nat.reduceSub, Nat.reduceEqDiff, Nat.reduceLT, Nat.reduceLeDiff, Nat.reduceMul, Int.reduceNeg, Int.reduceToNat, Int.reduceEq, Int.reduceLT, Int.reduceLE, reduceCtorEq, hi, hw, hg, hr, hxl, h1, h2]
    refine ihl _ ?_
    rw [hI, List.take_add_one, hy]; rfl
  · rintro x hI
    rw [List.take_length] at hI
    subst hI
    simp only [go_sem, ↓reduceIte, Nat.reduceAdd, Nat.reduceSub, Nat.reduceEqDiff, Nat.reduceLT, Nat.reduceLeDiff, Nat.reduceMul, Int.reduceNeg, Int.reduceToNat, Int.reduceEq, Int.reduceLT, Int.reduceLE, reduceCtorEq]
theorem own_R (q : Query) : q.Sm → R S0 86 [.agg [.int .i64 q.kind, .str q.field, .str q.text, .int .i64 q.low, .int .i64 q.high, .sl (q.parts.map pv)]] = some ⟨[none], .agg [.int .i64 q.kind, .str q.field, .str q.text, .int .i64 q.low, .int .i64 q.high, .slo 6 (q.parts.map pvo)]⟩ := by
  refine Query.ind (P := fun q => q.Sm → R S0 86 [.agg [.int .i64 q.kind, .str q.field, .str q.text, .int .i64 q.low, .int .i64 q.high, .sl (q.parts.map pv)]] = some ⟨[none], .agg [.int .i64 q.kind, .str q.field, .str q.text, .int .i64 q.low, .int .i64 q.high, .slo 6 (q.parts.map pvo)]⟩) (fun q ih hq => ?_) q
  obtain ⟨_, hf, ht, hp, hs⟩ := hq
  refine go86 rfl ?_; simp only [go_sem, ↓reduceIte, Nat.reduceAdd, Nat.reduceSub, Nat.reduceEqDiff, Nat.reduceLT, Nat.reduceLeDiff, Nat.reduceMul, Int.reduceNeg, Int.reduceToNat, Int.reduceEq, Int.reduceLT, Int.reduceLE, reduceCtorEq, Tryz.f86]
  refine ends_for q.parts.length (by omega) (fun i (x : List Query) => mkSt [(1, .addr 0 0 0), (2, .addr 1 0 0), (3, .addr 2 0 0), (4, .int .i64 i)] [.pto [.int .i64 q.kind, .str q.field, .str q.text, .int .i64 q.low, .int .i64 q.high, .sl (q.parts.map pv)], .pto [.int .i64 0, .str [], .str [], .int .i64 0, .int .i64 0, .slo 6 []], .pto [.int .i64 q.kind, .str q.field, .str q.text, .int .i64 q.low, .int .i64 q.high,   .slo 6 (x.map pvo)]]) (fun i x => x = q.parts.take i) 0 [] (by omega) rfl ?_ ?_
  · rintro i x hi hI hw ihl
    obtain ⟨y, hy, hg, hd⟩ := drop_get hi default
    have hr := ih y (List.mem_of_getElem? hy) (hs y (List.mem_of_getElem? hy))
    have hxl : x.length = i := by rw [hI]; simp; omega
    have h1 : (i + 1) * 96 ≤ 140737488355328 := by omega
    have h2 : (i + 1) * 80 ≤ 140737488355328 := by omega
    have hfin : x ++ [y] = q.parts.take (i + 1) := by rw [hI, List.take_add_one, hy]; rfl
    simp only [go_sem, ↓reduceIte, Nat.reduceAdd, Nat.reduceSub, Nat.reduceEqDiff, Nat.reduceLT, Nat.reduceLeDiff, Nat.reduceMul, Int.reduceNeg, Int.reduceToNat, Int.reduceEq, Int.reduceLT, Int.reduceLE, reduceCtorEq, hi, hw, hg, hr, hxl, h1, h2]
    exact ⟨by decide +kernel, ihl (x ++ [y]) hfin⟩
  · rintro x hI
    rw [List.take_length] at hI
    subst hI
    simp only [go_sem, ↓reduceIte, Nat.reduceAdd, Nat.reduceSub, Nat.reduceEqDiff, Nat.reduceLT, Nat.reduceLeDiff, Nat.reduceMul, Int.reduceNeg, Int.reduceToNat, Int.reduceEq, Int.reduceLT, Int.reduceLE, reduceCtorEq]
theorem implTurn_R (d : Nat) : ∀ (q : Query), q.Sm → okQ d q = true → R S0 84 [.agg [.int .i64 q.kind, .str q.field, .str q.text, .int .i64 q.low, .int .i64 q.high, .sl (q.parts.map pv)]] = some ⟨[none], .agg [.int .i64 (turnQ q).kind, .str (turnQ q).field, .str (turnQ q).text, .int .i64 (turnQ q).low, .int .i64 (turnQ q).high, .sl ((turnQ q).parts.map pv)]⟩ := by
  induction d with
  | zero => intro q _ h; cases h
  | succ d ih =>
    intro q hq hok
    obtain ⟨_, hf, ht, hp, hs⟩ := id hq
    rw [okQ, Bool.and_eq_true, List.all_eq_true] at hok
    have e := turnQ_eq q
    by_cases k9 : q.kind = 9
    · obtain ⟨p, hp1⟩ := nodeOk_nine hok.1 k9
      rw [if_pos k9, hp1] at e
      rw [e]
      refine go84 rfl ?_; simp only [go_sem, ↓reduceIte, Nat.reduceAdd, Nat.reduceSub, Nat.reduceEqDiff, Nat.reduceLT, Nat.reduceLeDiff, Nat.reduceMul, Int.reduceNeg, Int.reduceToNat, Int.reduceEq, Int.reduceLT, Int.reduceLE, reduceCtorEq, Tryz.f84, k9, hp1]
    rw [if_neg k9] at e
    by_cases k78 : q.kind = 7 ∨ q.kind = 8
    · rw [if_pos k78] at e
      have hw15 : IntKind.i64.wrap (15 - q.kind) = 15 - q.kind := wrap_in (by omega) (by omega)
      rw [e]
      rw [Query.kind_mk, Query.field_mk, Query.text_mk, Query.low_mk, Query.high_mk, Query.parts_mk]
      refine go84 rfl ?_; simp only [go_sem, ↓reduceIte, Nat.reduceAdd, Nat.reduceSub, Nat.reduceEqDiff, Nat.reduceLT, Nat.reduceLeDiff, Nat.reduceMul, Int.reduceNeg, Int.reduceToNat, Int.reduceEq, Int.reduceLT, Int.reduceLE, reduceCtorEq, Tryz.f84, k9, hw15]
      generalize hQ : Ends S0 _ _ _ = Q
      have hloop : Q := by
        rw [← hQ]
        refine ends_for q.parts.length (by omega) (fun i (x : List Query) => mkSt [(2, .addr 0 0 0), (3, .addr 1 0 0), (22, .sl (q.parts.map pv)), (23, .int .i64 q.parts.length), (24, .int .i64 i)] [.pto [.int .i64 0, .str [], .str [], .int .i64 0, .int .i64 0, .slo 6 []], .pto [.int .i64 (15 - q.kind), .str [], .str [], .int .i64 0, .int .i64 0, .slo 6 (x.map pv)]]) (fun i x => x = (q.parts.take i).map turnQ) 0 [] (by omega) rfl ?_ ?_
        · rintro i x hi hI hw ihl
          obtain ⟨y, hy, hg, hd⟩ := drop_get hi default
          have hm := List.mem_of_getElem? hy
          have hr := ih y (hs y hm) (hok.2 y hm)
          have hxl : x.length = i := by rw [hI]; simp; omega
          have h1 : (i + 1) * 96 ≤ 140737488355328 := by omega
          have h2 : (i + 1) * 80 ≤ 140737488355328 := by omega
          simp only [go_sem, ↓reduceIte, Nat.reduceAdd, Nat.reduceSub, Nat.reduceEqDiff, Nat.reduceLT, Nat.reduceLeDiff, Nat.reduceMul, Int.reduceNeg, Int.reduceToNat, Int.reduceEq, Int.reduceLT, Int.reduceLE, reduceCtorEq, hi, hw, hg, hr, hxl, h1, h2]
          refine ⟨by decide +kernel, ihl _ ?_⟩
          rw [hI, List.take_add_one, hy]; simp
        · rintro x hI
          rw [List.take_length] at hI
          subst hI
          simp only [go_sem, ↓reduceIte, Nat.reduceAdd, Nat.reduceSub, Nat.reduceEqDiff, Nat.reduceLT, Nat.reduceLeDiff, Nat.reduceMul, Int.reduceNeg, Int.reduceToNat, Int.reduceEq, Int.reduceLT, Int.reduceLE, reduceCtorEq]
      rcases k78 with h | h <;> simp [h, hloop]
    · rw [if_neg k78] at e
      rw [e]
      rw [Query.kind_mk, Query.field_mk, Query.text_mk, Query.low_mk, Query.high_mk, Query.parts_mk]
      have k7 : ¬ q.kind = 7 := fun h => k78 (.inl h)
      have k8 : ¬ q.kind = 8 := fun h => k78 (.inr h)
      have e1 : [PV.agg [.int .i64 q.kind, .str q.field, .str q.text, .int .i64 q.low, .int .i64 q.high, .sl (q.parts.map pv)]] = [q].map pv := by simp [pv_eq]
      refine go84 rfl ?_; simp only [go_sem, ↓reduceIte, Nat.reduceAdd, Nat.reduceSub, Nat.reduceEqDiff, Nat.reduceLT, Nat.reduceLeDiff, Nat.reduceMul, Int.reduceNeg, Int.reduceToNat, Int.reduceEq, Int.reduceLT, Int.reduceLE, reduceCtorEq, Tryz.f84, k9, k7, k8]
      exact (pv_eq q).symm
theorem specTurn_R (d : Nat) : ∀ (q : Query), q.Sm → okQ d q = true → R S0 87 [.agg [.int .i64 q.kind, .str q.field, .str q.text, .int .i64 q.low, .int .i64 q.high, .sl (q.parts.map pv)]] = some ⟨[none], .agg [.int .i64 (turnQ q).kind, .str (turnQ q).field, .str (turnQ q).text, .int .i64 (turnQ q).low, .int .i64 (turnQ q).high, .sl ((turnQ q).parts.map pv)]⟩ := by
  induction d with
  | zero => intro q _ h; cases h
  | succ d ih =>
    intro q hq hok
    obtain ⟨_, hf, ht, hp, hs⟩ := id hq
    rw [okQ, Bool.and_eq_true, List.all_eq_true] at hok
    have e := turnQ_eq q
    by_cases k9 : q.kind = 9
    · obtain ⟨p, hp1⟩ := nodeOk_nine hok.1 k9
      rw [if_pos k9, hp1] at e
      rw [e]
      refine go87 rfl ?_; simp only [go_sem, ↓reduceIte, Nat.reduceAdd, Nat.reduceSub, Nat.reduceEqDiff, Nat.reduceLT, Nat.reduceLeDiff, Nat.reduceMul, Int.reduceNeg, Int.reduceToNat, Int.reduceEq, Int.reduceLT, Int.reduceLE, reduceCtorEq, Tryz.f87, k9, hp1]
    rw [if_neg k9] at e
    by_cases k78 : q.kind = 7 ∨ q.kind = 8
    · rw [if_pos k78] at e
      have hw15 : IntKind.i64.wrap (15 - q.kind) = 15 - q.kind := wrap_in (by omega) (by omega)
      rw [e]
      rw [Query.kind_mk, Query.field_mk, Query.text_mk, Query.low_mk, Query.high_mk, Query.parts_mk]
      refine go87 rfl ?_; simp only [go_sem, ↓reduceIte, Nat.reduceAdd, Nat.reduceSub, Nat.reduceEqDiff, Nat.reduceLT, Nat.reduceLeDiff, Nat.reduceMul, Int.reduceNeg, Int.reduceToNat, Int.reduceEq, Int.reduceLT, Int.reduceLE, reduceCtorEq, Tryz.f87, k9, hw15]
      generalize hQ : Ends S0 _ _ _ = Q
      have hloop : Q := by
        rw [← hQ]
        refine ends_for q.parts.length (by omega) (fun i (x : List Query) => mkSt [(1, .addr 0 0 0), (2, .addr 1 0 0), (3, .addr 2 0 0), (4, .int .i64 i)] [.pto [.int .i64 q.kind, .str q.field, .str q.text, .int .i64 q.low, .int .i64 q.high, .sl (q.parts.map pv)], .pto [.int .i64 0, .str [], .str [], .int .i64 0, .int .i64 0, .slo 6 []], .pto [.int .i64 (15 - q.kind), .str [], .str [], .int .i64 0, .int .i64 0, .slo 6 (x.map pv)]]) (fun i x => x = (q.parts.take i).map turnQ) 0 [] (by omega) rfl ?_ ?_
        · rintro i x hi hI hw ihl
          obtain ⟨y, hy, hg, hd⟩ := drop_get hi default
          have hm := List.mem_of_getElem? hy
          have hr := ih y (hs y hm) (hok.2 y hm)
          have hxl : x.length = i := by rw [hI]; simp; omega
          have h1 : (i + 1) * 96 ≤ 140737488355328 := by omega
          have h2 : (i + 1) * 80 ≤ 140737488355328 := by omega
          simp only [go_sem, ↓reduceIte, Nat.reduceAdd, Nat.reduceSub, Nat.reduceEqDiff, Nat.reduceLT, Nat.reduceLeDiff, Nat.reduceMul, Int.reduceNeg, Int.reduceToNat, Int.reduceEq, Int.reduceLT, Int.reduceLE, reduceCtorEq, hi, hw, hg, hr, hxl, h1, h2]
          refine ⟨by decide +kernel, ihl _ ?_⟩
          rw [hI, List.take_add_one, hy]; simp
        · rintro x hI
          rw [List.take_length] at hI
          subst hI
          simp only [go_sem, ↓reduceIte, Nat.reduceAdd, Nat.reduceSub, Nat.reduceEqDiff, Nat.reduceLT, Nat.reduceLeDiff, Nat.reduceMul, Int.reduceNeg, Int.reduceToNat, Int.reduceEq, Int.reduceLT, Int.reduceLE, reduceCtorEq]
      rcases k78 with h | h <;> simp [h, hloop]
    · rw [if_neg k78] at e
      rw [e]
      rw [Query.kind_mk, Query.field_mk, Query.text_mk, Query.low_mk, Query.high_mk, Query.parts_mk]
      have k7 : ¬ q.kind = 7 := fun h => k78 (.inl h)
      have k8 : ¬ q.kind = 8 := fun h => k78 (.inr h)
      have e1 : [PV.agg [.int .i64 q.kind, .str q.field, .str q.text, .int .i64 q.low, .int .i64 q.high, .sl (q.parts.map pv)]] = [q].map pv := by simp [pv_eq]
      refine go87 rfl ?_; simp only [go_sem, ↓reduceIte, Nat.reduceAdd, Nat.reduceSub, Nat.reduceEqDiff, Nat.reduceLT, Nat.reduceLeDiff, Nat.reduceMul, Int.reduceNeg, Int.reduceToNat, Int.reduceEq, Int.reduceLT, Int.reduceLE, reduceCtorEq, Tryz.f87, k9, k7, k8]
      exact (pv_eq q).symm
mutual
/-- How many questions. -/
def nodes : Query → Nat | .mk _ _ _ _ _ p => nodesL p
def nodesL : List Query → Nat
  | [] => 0
  | q :: l => nodes q + 1 + nodesL l
end
theorem nodes_eq : ∀ q : Query, nodes q = nodesL q.parts
  | .mk _ _ _ _ _ p => by rw [nodes]; rfl
theorem nodesL_app : ∀ (l m : List Query), nodesL (l ++ m) = nodesL l + nodesL m
  | [], m => by simp [nodesL]
  | q :: l, m => by rw [List.cons_append, nodesL, nodesL, nodesL_app l m]; omega
theorem zero_sm : zeroQ.Sm := ⟨_, by show 0 ≤ _; omega, by show 0 ≤ _; omega, by show 0 ≤ _; omega, fun p hp => by cases hp⟩
theorem turn_sm (q : Query) : q.Sm → (turnQ q).Sm := by
  refine Query.ind (P := fun q => q.Sm → (turnQ q).Sm) (fun q ih hq => ?_) q
  obtain ⟨_, hf, ht, hp, hs⟩ := id hq
  rw [turnQ_eq]
  split
  · cases h : q.parts with
    | nil => exact zero_sm
    | cons p l => exact hs p (by rw [h]; simp)
  · split
    · refine ⟨_, by show 0 ≤ _; omega, by show 0 ≤ _; omega, by rw [Query.parts_mk, List.length_map]; exact hp, fun p hp => ?_⟩
      rw [Query.parts_mk] at hp
      obtain ⟨y, hy, rfl⟩ := List.mem_map.1 hp
      exact ih y hy (hs y hy)
    · refine ⟨_, by show 0 ≤ _; omega, by show 0 ≤ _; omega, by show 1 ≤ _; omega, fun p hp => ?_⟩
      rw [Query.parts_mk] at hp
      obtain rfl : p = q := by simpa using hp
      exact hq
theorem nodesL_tot : ∀ l : List Query, (∀ q ∈ l, nodes q ≤ tot q) → nodesL l ≤ totL l
  | [], _ => Nat.le_refl _
  | q :: l, h => by
    have := nodesL_tot l fun p hp => h p (List.mem_cons_of_mem _ hp)
    have := h q (by simp)
    rw [nodesL, totL]; omega
theorem nodes_tot (q : Query) : nodes q ≤ tot q := by
  refine Query.ind (P := fun q => nodes q ≤ tot q) (fun q ih => ?_) q
  have := nodesL_tot q.parts ih
  rw [nodes_eq, tot_eq]; omega
theorem nodesL_turn : ∀ l : List Query, (∀ q ∈ l, nodes (turnQ q) ≤ 2 * nodes q + 1) → nodesL (l.map turnQ) ≤ 2 * nodesL l
  | [], _ => Nat.le_refl _
  | q :: l, h => by
    have := nodesL_turn l fun p hp => h p (List.mem_cons_of_mem _ hp)
    have := h q (by simp)
    rw [List.map_cons, nodesL, nodesL]; omega
theorem nodes_turn (q : Query) : nodes (turnQ q) ≤ 2 * nodes q + 1 := by
  refine Query.ind (P := fun q => nodes (turnQ q) ≤ 2 * nodes q + 1) (fun q ih => ?_) q
  have h := nodesL_turn q.parts ih
  have hq := nodes_eq q
  rw [turnQ_eq]
  split
  · cases h : q.parts with
    | nil => rw [List.headD_nil]; simp [zeroQ, nodes, nodesL]
    | cons p l => rw [h, nodesL] at hq; rw [List.headD_cons]; omega
  · split
    · rw [nodes_eq, Query.parts_mk]; omega
    · rw [nodes_eq, Query.parts_mk, nodesL, nodesL]; omega
/-- What QueryTurn answers. -/
def turnR (q : Query) : Query × Bool := if okQ 4 q = true ∧ okQ 4 (turnQ q) = true then (turnQ q, true) else (zeroQ, false)
@[go_sem] theorem implQueryTurn_R (q : Query) (hq : q.Sm) : R S0 32 [.agg [.int .i64 q.kind, .str q.field, .str q.text, .int .i64 q.low, .int .i64 q.high, .sl (q.parts.map pv)]] = some ⟨[none], .tup [.agg [.int .i64 (turnR q).1.kind, .str (turnR q).1.field, .str (turnR q).1.text, .int .i64 (turnR q).1.low, .int .i64 (turnR q).1.high, .slo 6 ((turnR q).1.parts.map pvo)], .bool (turnR q).2]⟩ := by
  by_cases h1 : okQ 4 q = true
  · have ht := turn_sm q hq
    have k1 := implTurn_R 4 q hq h1
    have k2 := clone_R (turnQ q) ht
    by_cases h2 : okQ 4 (turnQ q) = true
    · rw [turnR, if_pos ⟨h1, h2⟩]
      refine go32 rfl ?_; simp only [go_sem, ↓reduceIte, Nat.reduceAdd, Nat.reduceSub, Nat.reduceEqDiff, Nat.reduceLT, Nat.reduceLeDiff, Nat.reduceMul, Int.reduceNeg, Int.reduceToNat, Int.reduceEq, Int.reduceLT, Int.reduceLE, reduceCtorEq, Tryz.f32, hq, ht, k1, k2, h1, h2]
    · rw [turnR, if_neg fun h => h2 h.2]
      have h2 : okQ 4 (turnQ q) = false := by simpa using h2
      refine go32 rfl ?_; simp only [go_sem, ↓reduceIte, Nat.reduceAdd, Nat.reduceSub, Nat.reduceEqDiff, Nat.reduceLT, Nat.reduceLeDiff, Nat.reduceMul, Int.reduceNeg, Int.reduceToNat, Int.reduceEq, Int.reduceLT, Int.reduceLE, reduceCtorEq, Tryz.f32, hq, ht, k1, k2, h1, h2]
      simp [zeroQ, Query.kind, Query.field, Query.text, Query.low, Query.high, Query.parts]
  · rw [turnR, if_neg fun h => h1 h.1]
    have h1 : okQ 4 q = false := by simpa using h1
    refine go32 rfl ?_; simp only [go_sem, ↓reduceIte, Nat.reduceAdd, Nat.reduceSub, Nat.reduceEqDiff, Nat.reduceLT, Nat.reduceLeDiff, Nat.reduceMul, Int.reduceNeg, Int.reduceToNat, Int.reduceEq, Int.reduceLT, Int.reduceLE, reduceCtorEq, Tryz.f32, hq, h1]
    simp [zeroQ, Query.kind, Query.field, Query.text, Query.low, Query.high, Query.parts]
@[go_sem] theorem specQueryTurn_R (q : Query) (hq : q.Sm) : R S0 33 [.agg [.int .i64 q.kind, .str q.field, .str q.text, .int .i64 q.low, .int .i64 q.high, .sl (q.parts.map pv)]] = some ⟨[none], .tup [.agg [.int .i64 (turnR q).1.kind, .str (turnR q).1.field, .str (turnR q).1.text, .int .i64 (turnR q).1.low, .int .i64 (turnR q).1.high, .slo 6 ((turnR q).1.parts.map pvo)], .bool (turnR q).2]⟩ := by
  by_cases h1 : okQ 4 q = true
  · have ht := turn_sm q hq
    have k1 := specTurn_R 4 q hq h1
    have k2 := own_R (turnQ q) ht
    by_cases h2 : okQ 4 (turnQ q) = true
    · rw [turnR, if_pos ⟨h1, h2⟩]
      refine go33 rfl ?_; simp only [go_sem, ↓reduceIte, Nat.reduceAdd, Nat.reduceSub, Nat.reduceEqDiff, Nat.reduceLT, Nat.reduceLeDiff, Nat.reduceMul, Int.reduceNeg, Int.reduceToNat, Int.reduceEq, Int.reduceLT, Int.reduceLE, reduceCtorEq, Tryz.f33, hq, ht, k1, k2, h1, h2]
    · rw [turnR, if_neg fun h => h2 h.2]
      have h2 : okQ 4 (turnQ q) = false := by simpa using h2
      refine go33 rfl ?_; simp only [go_sem, ↓reduceIte, Nat.reduceAdd, Nat.reduceSub, Nat.reduceEqDiff, Nat.reduceLT, Nat.reduceLeDiff, Nat.reduceMul, Int.reduceNeg, Int.reduceToNat, Int.reduceEq, Int.reduceLT, Int.reduceLE, reduceCtorEq, Tryz.f33, hq, ht, k1, k2, h1, h2]
      simp [zeroQ, Query.kind, Query.field, Query.text, Query.low, Query.high, Query.parts]
  · rw [turnR, if_neg fun h => h1 h.1]
    have h1 : okQ 4 q = false := by simpa using h1
    refine go33 rfl ?_; simp only [go_sem, ↓reduceIte, Nat.reduceAdd, Nat.reduceSub, Nat.reduceEqDiff, Nat.reduceLT, Nat.reduceLeDiff, Nat.reduceMul, Int.reduceNeg, Int.reduceToNat, Int.reduceEq, Int.reduceLT, Int.reduceLE, reduceCtorEq, Tryz.f33, hq, h1]
    simp [zeroQ, Query.kind, Query.field, Query.text, Query.low, Query.high, Query.parts]
end Go.Proofs.YtanbccpabgcmaaaGreatDoor.PVE
