/- Turned questions, copies, marks. -/
import Derived.Test.YtmanllfmgghadaaGreatDoorT7
set_option linter.unusedVariables false
set_option linter.unusedSimpArgs false
set_option maxRecDepth 100000
namespace Go.Proofs.YtmanllfmgghadaaGreatDoor.PVE
open PV Query
@[go_sem] theorem Query.snocv (l : List Query) (a lo hi : Int) (b c : Str) (m : List Query) : l.map pv ++ [.agg [.int .i64 a, .str b, .str c, .int .i64 lo, .int .i64 hi, .sl (m.map pv)]] = (l ++ [Query.mk a b c lo hi m]).map pv := by simp [pv_eq, Query.kind, Query.field, Query.text, Query.low, Query.high, Query.parts]
@[go_sem] theorem Query.kind_mk (k lo hi : Int) (f t : Str) (p : List Query) : (Query.mk k f t lo hi p).kind = k := rfl
@[go_sem] theorem Query.field_mk (k lo hi : Int) (f t : Str) (p : List Query) : (Query.mk k f t lo hi p).field = f := rfl
@[go_sem] theorem Query.text_mk (k lo hi : Int) (f t : Str) (p : List Query) : (Query.mk k f t lo hi p).text = t := rfl
@[go_sem] theorem Query.low_mk (k lo hi : Int) (f t : Str) (p : List Query) : (Query.mk k f t lo hi p).low = lo := rfl
@[go_sem] theorem Query.high_mk (k lo hi : Int) (f t : Str) (p : List Query) : (Query.mk k f t lo hi p).high = hi := rfl
@[go_sem] theorem Query.parts_mk (k lo hi : Int) (f t : Str) (p : List Query) : (Query.mk k f t lo hi p).parts = p := rfl
mutual
def turnQ : Query → Query
  | .mk k f t lo hi p => if k = 9 then p.headD zeroQ else if k = 7 ∨ k = 8 then .mk (15 - k) [] [] 0 0 (turnL p) else .mk 9 [] [] 0 0 [.mk k f t lo hi p]
def turnL : List Query → List Query
  | [] => []
  | q :: l => turnQ q :: turnL l
end
theorem nodeOk_nine {q : Query} (h : nodeOk q = true) (hk : q.kind = 9) : ∃ p, q.parts = [p] := by
  unfold nodeOk at h
  split at h
  · unfold leafOk at h
    simp [hk] at h
  · simp [hk] at h
    exact List.length_eq_one_iff.1 h.1.1.1.1
theorem clone_R (q : Query) : q.Sm → R S0 100 [.agg [.int .i64 q.kind, .str q.field, .str q.text, .int .i64 q.low, .int .i64 q.high, .sl (q.parts.map pv)]] = some ⟨[none], .agg [.int .i64 q.kind, .str q.field, .str q.text, .int .i64 q.low, .int .i64 q.high, .slo 6 (q.parts.map pvo)]⟩ := by
  refine Query.ind (P := fun q => q.Sm → R S0 100 [.agg [.int .i64 q.kind, .str q.field, .str q.text, .int .i64 q.low, .int .i64 q.high, .sl (q.parts.map pv)]] = some ⟨[none], .agg [.int .i64 q.kind, .str q.field, .str q.text, .int .i64 q.low, .int .i64 q.high, .slo 6 (q.parts.map pvo)]⟩) (fun q ih hq => ?_) q
  obtain ⟨_, hf, ht, hp, hs⟩ := hq
  refine go100 rfl ?_; simp only [go_sem, ↓reduceIte, Nat.reduceAdd, Nat.reduceSub, Nat.reduceEqDiff, Nat.reduceLT, Nat.reduceLeDiff, Nat.reduceMul, Int.reduceNeg, Int.reduceToNat, Int.reduceEq, Int.reduceLT, Int.reduceLE, reduceCtorEq, Tryz.f100]
  refine ends_for q.parts.length (by omega) (fun i (x : List Query) => mkSt [(1, .addr 0 0 0), (2, .addr 1 0 0), (3, .own 2), (8, .sl (q.parts.map pv)), (9, .int .i64 q.parts.length), (10, .int .i64 i)] [.pto [.int .i64 q.kind, .str q.field, .str q.text, .int .i64 q.low, .int .i64 q.high, .sl (q.parts.map pv)], .pto [.int .i64 0, .str [], .str [], .int .i64 0, .int .i64 0, .slo 6 []], .slo 6 (x.map pvo)]) (fun i x => x = q.parts.take i) 0 [] (by omega) rfl ?_ ?_
  · rintro i x hi hI hw ihl
    obtain ⟨y, hy, hg, hd⟩ := drop_get hi default
    have hr := ih y (List.mem_of_getElem? hy) (hs y (List.mem_of_getElem? hy))
    have hxl : x.length = i := by rw [hI]; simp; omega
    have h1 : (i + 1) * 96 ≤ 140737488355328 := by omega
    have h2 : (i + 1) * 80 ≤ 140737488355328 := by omega
    simp only [go_sem, ↓reduceIte, Nat.reduceAdd, Nat.reduceSub, Nat.reduceEqDiff, Nat.reduceLT, Nat.reduceLeDiff, Nat.reduceMul, Int.reduceNeg, Int.reduceToNat, Int.reduceEq, Int.reduceLT, Int.reduceLE, reduceCtorEq, hi, hw, hg, hr, hxl, h1, h2]
    refine ihl _ ?_
    rw [hI, List.take_add_one, hy]; rfl
  · rintro x hI
    rw [List.take_length] at hI
    subst hI
    simp only [go_sem, ↓reduceIte, Nat.reduceAdd, Nat.reduceSub, Nat.reduceEqDiff, Nat.reduceLT, Nat.reduceLeDiff, Nat.reduceMul, Int.reduceNeg, Int.reduceToNat, Int.reduceEq, Int.reduceLT, Int.reduceLE, reduceCtorEq]
theorem markText_ex (k : Nat) (hk : k ≤ 1099511627776) : ∃ r, R S0 66 [.int .i64 k] = some r ∧ ∃ s : Str, r = ⟨[none], .str s⟩ := by
  refine (fun ⟨r, h, hp⟩ => ⟨r, go66 rfl h, hp⟩ : (∃ r, Ends S0 _ _ r ∧ _) → _) ?_
  simp only [go_sem, ↓reduceIte, Nat.reduceAdd, Nat.reduceSub, Nat.reduceEqDiff, Nat.reduceLT, Nat.reduceLeDiff, Nat.reduceMul, Int.reduceNeg, Int.reduceToNat, Int.reduceEq, Int.reduceLT, Int.reduceLE, reduceCtorEq, Tryz.f66, ex_if, ex_bool, ex_and, ex_eq]
  refine ⟨fun _ => ⟨_, rfl⟩, fun _ => ?_⟩
  refine ends_wx (fun x : Nat × Str => x.1) (fun x => mkSt [(0, .int .i64 x.1), (3, .str x.2)] []) (fun x => x.2.length + x.1 ≤ 1099511627776) (k, []) (by simpa using hk) ?_
  rintro ⟨n, out⟩ hI ih
  simp only at hI
  cases n with
  | zero =>
    have h0 : ¬ (0 : Int) < ((0 : Nat) : Int) := by omega
    have h1 : out.length + 1 ≤ 9223372036854775807 := by omega
    have h2 : 1 + out.length ≤ 9223372036854775807 := by omega
    simp only [go_sem, ↓reduceIte, Nat.reduceAdd, Nat.reduceSub, Nat.reduceEqDiff, Nat.reduceLT, Nat.reduceLeDiff, Nat.reduceMul, Int.reduceNeg, Int.reduceToNat, Int.reduceEq, Int.reduceLT, Int.reduceLE, reduceCtorEq, h0, h1, h2, ex_if, ex_bool, ex_and, ex_eq]
    exact ⟨_, rfl⟩
  | succ m =>
    have h0 : (0 : Int) < ((m + 1 : Nat) : Int) := by omega
    have h2 : 1 + out.length ≤ 9223372036854775807 := by omega
    have h3 : ((m + 1 : Nat) : Int).tmod 10 = (((m + 1) % 10 : Nat) : Int) := (Int.ofNat_tmod (m + 1) 10).symm
    have h4 : ((m + 1 : Nat) : Int).tdiv 10 = (((m + 1) / 10 : Nat) : Int) := (Int.ofNat_tdiv (m + 1) 10).symm
    have h5 : IntKind.i64.wrap (((m + 1) / 10 : Nat) : Int) = (((m + 1) / 10 : Nat) : Int) := wrap_in (by omega) (by omega)
    have h6 : IntKind.i64.wrap (48 + (((m + 1) % 10 : Nat) : Int)) = ((48 + (m + 1) % 10 : Nat) : Int) := by rw [wrap_in (by omega) (by omega)]; omega
    have h7 : IntKind.u8.wrap ((48 + (m + 1) % 10 : Nat) : Int) = ((48 + (m + 1) % 10 : Nat) : Int) := by rw [IntKind.wrap_u8]; omega
    simp only [go_sem, ↓reduceIte, Nat.reduceAdd, Nat.reduceSub, Nat.reduceEqDiff, Nat.reduceLT, Nat.reduceLeDiff, Nat.reduceMul, Int.reduceNeg, Int.reduceToNat, Int.reduceEq, Int.reduceLT, Int.reduceLE, reduceCtorEq, h0, h2, h3, h4, h5, h6, h7, ex_if, ex_bool, ex_and, ex_eq]
    exact ⟨rfl, ih ((m + 1) / 10, _ :: out) (by simp only; omega) (by simp only [List.length_cons]; omega)⟩
noncomputable def mT (k : Nat) : Str := open Classical in if h : k ≤ 1099511627776 then (markText_ex k h).choose_spec.2.choose else []
@[go_sem] theorem markText_R (k : Nat) (hk : k ≤ 1099511627776) : R S0 66 [.int .i64 k] = some ⟨[none], .str (mT k)⟩ := by
  have h := (markText_ex k hk).choose_spec
  rw [h.1, h.2.choose_spec, mT, dif_pos hk]
mutual
def nodes : Query → Nat | .mk _ _ _ _ _ p => nodesL p
def nodesL : List Query → Nat
  | [] => 0
  | q :: l => nodes q + 1 + nodesL l
end
mutual
noncomputable def mkQ (k : Nat) : Query → Query | .mk _ _ _ _ _ p => .mk k (mT (k + 1)) (mT (k + 2)) (k + 3 : Nat) (k + 4 : Nat) (mkL (k + 5) p)
noncomputable def mkL (k : Nat) : List Query → List Query
  | [] => []
  | q :: l => mkQ k q :: mkL (k + 5 * (nodes q + 1)) l
end
theorem nodes_eq : ∀ q : Query, nodes q = nodesL q.parts
  | .mk _ _ _ _ _ p => by rw [nodes]; rfl
theorem mkQ_eq (k : Nat) : ∀ q : Query, mkQ k q = .mk k (mT (k + 1)) (mT (k + 2)) (k + 3 : Nat) (k + 4 : Nat) (mkL (k + 5) q.parts)
  | .mk _ _ _ _ _ p => by rw [mkQ]; rfl
theorem nodesL_app : ∀ (l m : List Query), nodesL (l ++ m) = nodesL l + nodesL m
  | [], m => by simp [nodesL]
  | q :: l, m => by rw [List.cons_append, nodesL, nodesL, nodesL_app l m]; omega
theorem mkL_app : ∀ (k : Nat) (l m : List Query), mkL k (l ++ m) = mkL k l ++ mkL (k + 5 * nodesL l) m
  | k, [], m => by simp [mkL, nodesL]
  | k, q :: l, m => by
    rw [List.cons_append, mkL, mkL, mkL_app _ l m, nodesL, List.cons_append]
    congr 3
    omega
theorem mkL_len : ∀ (k : Nat) (l : List Query), (mkL k l).length = l.length
  | k, [] => rfl
  | k, q :: l => by rw [mkL, List.length_cons, mkL_len _ l, List.length_cons]
theorem markS_R (l : List Query) : ∀ (h : ∀ q ∈ l, ∀ k : Nat, k + 5 * nodesL q.parts ≤ 1099511627776 → R S0 81 [.slo 6 (q.parts.map pvo), .int .i64 k] = some ⟨[some (.slo 6 ((mkL k q.parts).map pvo)), none], .int .i64 (k + 5 * nodesL q.parts : Nat)⟩) (k : Nat) (hk : k + 5 * nodesL l ≤ 1099511627776) (hl : l.length ≤ 1099511627776),
    R S0 81 [.slo 6 (l.map pvo), .int .i64 k] = some ⟨[some (.slo 6 ((mkL k l).map pvo)), none], .int .i64 (k + 5 * nodesL l : Nat)⟩ := by
  intro h k hk hl
  refine go81 rfl ?_; simp only [go_sem, ↓reduceIte, Nat.reduceAdd, Nat.reduceSub, Nat.reduceEqDiff, Nat.reduceLT, Nat.reduceLeDiff, Nat.reduceMul, Int.reduceNeg, Int.reduceToNat, Int.reduceEq, Int.reduceLT, Int.reduceLE, reduceCtorEq, Tryz.f81]
  refine ends_for l.length (by omega) (fun i _ => mkSt [(0, .own 0), (1, .int .i64 (k + 5 * nodesL (l.take i) : Nat)), (5, .int .i64 i), (1000000, .own 0)] [.slo 6 ((mkL k (l.take i) ++ l.drop i).map pvo)]) (fun i _ => True) 0 () (by omega) trivial ?_ ?_
  · rintro i _ hi - hw ih
    obtain ⟨q, hq, hg, hd⟩ := drop_get hi default
    have htk : l.take (i + 1) = l.take i ++ [q] := by rw [List.take_add_one, hq]; rfl
    have hll : l = l.take i ++ q :: l.drop (i + 1) := by rw [← hd, List.take_append_drop]
    have hsum : nodesL l = nodesL (l.take i) + (nodes q + 1 + nodesL (l.drop (i + 1))) := by
      conv => lhs; rw [hll]
      rw [nodesL_app, nodesL]
    have hnq := nodes_eq q
    have ih := ih () trivial
    rw [htk, nodesL_app, mkL_app, nodesL, nodesL, mkL, mkL, mkQ_eq] at ih
    obtain ⟨K, hK⟩ : ∃ K, K = k + 5 * nodesL (l.take i) := ⟨_, rfl⟩
    rw [← hK] at ih ⊢
    have hr := h q (List.mem_of_getElem? hq) (K + 5) (by omega)
    have hlen : (mkL k (l.take i)).length = i := by rw [mkL_len]; simp; omega
    obtain ⟨A, hA⟩ : ∃ A, A = mkL k (l.take i) := ⟨_, rfl⟩
    rw [← hA] at ih hlen ⊢
    rw [hd]
    obtain ⟨X, hX⟩ : ∃ X, X = A ++ q :: l.drop (i + 1) := ⟨_, rfl⟩
    rw [← hX]
    have hx : X[i]? = some q := by rw [hX, List.getElem?_append_right (by omega), hlen, Nat.sub_self]; rfl
    have hxi : i < X.length := by rw [hX]; simp; omega
    have hset : ∀ y, X.set i y = A ++ y :: l.drop (i + 1) := fun y => by rw [hX, List.set_append_right _ _ (by omega), hlen, Nat.sub_self]; rfl
    have w1 : IntKind.i64.wrap ((K : Int) + 1) = ((K + 1 : Nat) : Int) := by rw [wrap_in (by omega) (by omega)]; omega
    have w2 : IntKind.i64.wrap (((K + 1 : Nat) : Int) + 1) = ((K + 2 : Nat) : Int) := by rw [wrap_in (by omega) (by omega)]; omega
    have w3 : IntKind.i64.wrap (((K + 2 : Nat) : Int) + 1) = ((K + 3 : Nat) : Int) := by rw [wrap_in (by omega) (by omega)]; omega
    have w4 : IntKind.i64.wrap (((K + 3 : Nat) : Int) + 1) = ((K + 4 : Nat) : Int) := by rw [wrap_in (by omega) (by omega)]; omega
    have w5 : IntKind.i64.wrap (((K + 4 : Nat) : Int) + 1) = ((K + 5 : Nat) : Int) := by rw [wrap_in (by omega) (by omega)]; omega
    have b1 : K + 1 ≤ 1099511627776 := by omega
    have b2 : K + 2 ≤ 1099511627776 := by omega
    have e1 : k + 5 * (nodesL (l.take i) + (nodes q + 1 + 0)) = K + 5 + 5 * nodesL q.parts := by omega
    rw [e1, List.append_assoc, List.cons_append, List.nil_append] at ih
    simp only [go_sem, ↓reduceIte, Nat.reduceAdd, Nat.reduceSub, Nat.reduceEqDiff, Nat.reduceLT, Nat.reduceLeDiff, Nat.reduceMul, Int.reduceNeg, Int.reduceToNat, Int.reduceEq, Int.reduceLT, Int.reduceLE, reduceCtorEq, hi, hw, hx, hxi, hr, w1, w2, w3, w4, w5, b1, b2]
    rw [hset]
    exact ih
  · rintro _ -
    have hml := mkL_len k l
    rw [List.take_length, List.drop_length, List.append_nil]
    simp only [go_sem, ↓reduceIte, Nat.reduceAdd, Nat.reduceSub, Nat.reduceEqDiff, Nat.reduceLT, Nat.reduceLeDiff, Nat.reduceMul, Int.reduceNeg, Int.reduceToNat, Int.reduceEq, Int.reduceLT, Int.reduceLE, reduceCtorEq, hml]
theorem heldS_R (l : List Query) : ∀ (h : ∀ q ∈ l, ∀ k : Nat, k + 5 * nodesL q.parts ≤ 1099511627776 → R S0 101 [.sl ((mkL k q.parts).map pv), .int .i64 k] = some ⟨[none, none], .int .i64 (k + 5 * nodesL q.parts : Nat)⟩) (k : Nat) (hk : k + 5 * nodesL l ≤ 1099511627776) (hl : l.length ≤ 1099511627776),
    R S0 101 [.sl ((mkL k l).map pv), .int .i64 k] = some ⟨[none, none], .int .i64 (k + 5 * nodesL l : Nat)⟩ := by
  intro h k hk hl
  have hml := mkL_len k l
  refine go101 rfl ?_; simp only [go_sem, ↓reduceIte, Nat.reduceAdd, Nat.reduceSub, Nat.reduceEqDiff, Nat.reduceLT, Nat.reduceLeDiff, Nat.reduceMul, Int.reduceNeg, Int.reduceToNat, Int.reduceEq, Int.reduceLT, Int.reduceLE, reduceCtorEq, Tryz.f101]
  refine ends_for l.length (by omega) (fun i _ => mkSt [(0, .sl ((mkL k l).map pv)), (1, .int .i64 (k + 5 * nodesL (l.take i) : Nat)), (5, .int .i64 i)] []) (fun i _ => True) 0 () (by omega) trivial ?_ ?_
  · rintro i _ hi - hw ih
    obtain ⟨q, hq, hg, hd⟩ := drop_get hi default
    have htk : l.take (i + 1) = l.take i ++ [q] := by rw [List.take_add_one, hq]; rfl
    have hll : l = l.take i ++ q :: l.drop (i + 1) := by rw [← hd, List.take_append_drop]
    have hsum : nodesL l = nodesL (l.take i) + (nodes q + 1 + nodesL (l.drop (i + 1))) := by
      conv => lhs; rw [hll]
      rw [nodesL_app, nodesL]
    have hnq := nodes_eq q
    have ih := ih () trivial
    rw [htk, nodesL_app, nodesL, nodesL] at ih
    have hlen : (mkL k (l.take i)).length = i := by rw [mkL_len]; simp; omega
    have hx0 : (mkL k l)[i]? = some (mkQ (k + 5 * nodesL (l.take i)) q) := by
      conv => lhs; rw [hll]
      rw [mkL_app, mkL, List.getElem?_append_right (by omega), hlen, Nat.sub_self]
      rfl
    obtain ⟨K, hK⟩ : ∃ K, K = k + 5 * nodesL (l.take i) := ⟨_, rfl⟩
    rw [← hK] at hx0 ⊢
    have e1 : k + 5 * (nodesL (l.take i) + (nodes q + 1 + 0)) = K + 5 + 5 * nodesL q.parts := by omega
    rw [e1] at ih
    have hr := h q (List.mem_of_getElem? hq) (K + 5) (by omega)
    obtain ⟨M, hM⟩ : ∃ M, M = mkL k l := ⟨_, rfl⟩
    rw [← hM] at hx0 hml ih ⊢
    rw [mkQ_eq] at hx0
    have hgx : M.getD i default = .mk K (mT (K + 1)) (mT (K + 2)) (K + 3 : Nat) (K + 4 : Nat) (mkL (K + 5) q.parts) := by rw [List.getD_eq_getElem?_getD, hx0]; rfl
    have hiM : i < M.length := by omega
    have w1 : IntKind.i64.wrap ((K : Int) + 1) = ((K + 1 : Nat) : Int) := by rw [wrap_in (by omega) (by omega)]; omega
    have w2 : IntKind.i64.wrap (((K + 1 : Nat) : Int) + 1) = ((K + 2 : Nat) : Int) := by rw [wrap_in (by omega) (by omega)]; omega
    have w3 : IntKind.i64.wrap (((K + 2 : Nat) : Int) + 1) = ((K + 3 : Nat) : Int) := by rw [wrap_in (by omega) (by omega)]; omega
    have w4 : IntKind.i64.wrap (((K + 3 : Nat) : Int) + 1) = ((K + 4 : Nat) : Int) := by rw [wrap_in (by omega) (by omega)]; omega
    have w5 : IntKind.i64.wrap (((K + 4 : Nat) : Int) + 1) = ((K + 5 : Nat) : Int) := by rw [wrap_in (by omega) (by omega)]; omega
    have b1 : K + 1 ≤ 1099511627776 := by omega
    have b2 : K + 2 ≤ 1099511627776 := by omega
    have b3 : ¬ ((K + 5 + 5 * nodesL q.parts : Nat) : Int) < 0 := by omega
    simp only [go_sem, ↓reduceIte, Nat.reduceAdd, Nat.reduceSub, Nat.reduceEqDiff, Nat.reduceLT, Nat.reduceLeDiff, Nat.reduceMul, Int.reduceNeg, Int.reduceToNat, Int.reduceEq, Int.reduceLT, Int.reduceLE, reduceCtorEq, hi, hw, hgx, hiM, hr, w1, w2, w3, w4, w5, b1, b2, b3]
    exact ih
  · rintro _ -
    have hml2 : ¬ (l.length < (mkL k l).length) := by omega
    rw [List.take_length]
    simp only [go_sem, ↓reduceIte, Nat.reduceAdd, Nat.reduceSub, Nat.reduceEqDiff, Nat.reduceLT, Nat.reduceLeDiff, Nat.reduceMul, Int.reduceNeg, Int.reduceToNat, Int.reduceEq, Int.reduceLT, Int.reduceLE, reduceCtorEq, hml2]
theorem mark_R (q : Query) : q.Sm → ∀ k : Nat, k + 5 * nodesL q.parts ≤ 1099511627776 → R S0 81 [.slo 6 (q.parts.map pvo), .int .i64 k] = some ⟨[some (.slo 6 ((mkL k q.parts).map pvo)), none], .int .i64 (k + 5 * nodesL q.parts : Nat)⟩ := by
  refine Query.ind (P := fun q => q.Sm → ∀ k : Nat, k + 5 * nodesL q.parts ≤ 1099511627776 → R S0 81 [.slo 6 (q.parts.map pvo), .int .i64 k] = some ⟨[some (.slo 6 ((mkL k q.parts).map pvo)), none], .int .i64 (k + 5 * nodesL q.parts : Nat)⟩) (fun q ih hq k hk => ?_) q
  obtain ⟨_, hf, ht, hp, hs⟩ := hq
  exact markS_R q.parts (fun p hp => ih p hp (hs p hp)) k hk hp
theorem held_R (q : Query) : q.Sm → ∀ k : Nat, k + 5 * nodesL q.parts ≤ 1099511627776 → R S0 101 [.sl ((mkL k q.parts).map pv), .int .i64 k] = some ⟨[none, none], .int .i64 (k + 5 * nodesL q.parts : Nat)⟩ := by
  refine Query.ind (P := fun q => q.Sm → ∀ k : Nat, k + 5 * nodesL q.parts ≤ 1099511627776 → R S0 101 [.sl ((mkL k q.parts).map pv), .int .i64 k] = some ⟨[none, none], .int .i64 (k + 5 * nodesL q.parts : Nat)⟩) (fun q ih hq k hk => ?_) q
  obtain ⟨_, hf, ht, hp, hs⟩ := hq
  exact heldS_R q.parts (fun p hp => ih p hp (hs p hp)) k hk hp
theorem markQuery_R (q : Query) (hq : q.Sm) (k : Nat) (hk : k + 5 * nodesL q.parts ≤ 1099511627776) : R S0 30 [.agg [.int .i64 q.kind, .str q.field, .str q.text, .int .i64 q.low, .int .i64 q.high, .slo 6 (q.parts.map pvo)], .int .i64 k] = some ⟨[some (.agg [.int .i64 q.kind, .str q.field, .str q.text, .int .i64 q.low, .int .i64 q.high, .slo 6 ((mkL k q.parts).map pvo)]), none], .int .i64 (k + 5 * nodesL q.parts : Nat)⟩ := by
  have h := mark_R q hq k hk
  refine go30 rfl ?_; simp only [go_sem, ↓reduceIte, Nat.reduceAdd, Nat.reduceSub, Nat.reduceEqDiff, Nat.reduceLT, Nat.reduceLeDiff, Nat.reduceMul, Int.reduceNeg, Int.reduceToNat, Int.reduceEq, Int.reduceLT, Int.reduceLE, reduceCtorEq, Tryz.f30, h]
theorem heldQuery_R (q : Query) (hq : q.Sm) (k : Nat) (hk : k + 5 * nodesL q.parts ≤ 1099511627776) : R S0 42 [.agg [.int .i64 q.kind, .str q.field, .str q.text, .int .i64 q.low, .int .i64 q.high, .sl ((mkL k q.parts).map pv)], .int .i64 k] = some ⟨[none, none], .int .i64 (k + 5 * nodesL q.parts : Nat)⟩ := by
  have h := held_R q hq k hk
  have b3 : ¬ ((k + 5 * nodesL q.parts : Nat) : Int) < 0 := by omega
  refine go42 rfl ?_; simp only [go_sem, ↓reduceIte, Nat.reduceAdd, Nat.reduceSub, Nat.reduceEqDiff, Nat.reduceLT, Nat.reduceLeDiff, Nat.reduceMul, Int.reduceNeg, Int.reduceToNat, Int.reduceEq, Int.reduceLT, Int.reduceLE, reduceCtorEq, Tryz.f42, h, b3]
theorem zero_sm : zeroQ.Sm := ⟨_, by show 0 ≤ _; omega, by show 0 ≤ _; omega, by show 0 ≤ _; omega, fun p hp => by cases hp⟩
end Go.Proofs.YtmanllfmgghadaaGreatDoor.PVE
