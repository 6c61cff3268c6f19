/- Indexes as arguments: sizes, copies, comparisons, marks (printed by exact.py). -/
import Derived.Test.YtmanllfmgghadaaGreatDoorT18
import Derived.Test.YtmanllfmgghadaaGreatDoorTG
set_option linter.unusedVariables false
set_option linter.unusedSimpArgs false
set_option maxRecDepth 100000
namespace Go.Proofs.YtmanllfmgghadaaGreatDoor.PVE
open PV
noncomputable def mkG {α : Type} (f : Nat → α → α) (w : α → Nat) (k : Nat) : List α → List α
  | [] => []
  | x :: l => f k x :: mkG f w (k + w x) l
def wG {α : Type} (w : α → Nat) : List α → Nat
  | [] => 0
  | x :: l => w x + wG w l
theorem wG_app {α : Type} (w : α → Nat) : ∀ (l m : List α), wG w (l ++ m) = wG w l + wG w m
  | [], m => by simp [wG]
  | x :: l, m => by rw [List.cons_append, wG, wG, wG_app w l m]; omega
theorem mkG_app {α : Type} (f : Nat → α → α) (w : α → Nat) : ∀ (k : Nat) (l m : List α), mkG f w k (l ++ m) = mkG f w k l ++ mkG f w (k + wG w l) m
  | k, [], m => by simp [mkG, wG]
  | k, x :: l, m => by
    rw [List.cons_append, mkG, mkG, mkG_app f w _ l m, wG, List.cons_append]
    congr 3
    omega
theorem mkG_len {α : Type} (f : Nat → α → α) (w : α → Nat) : ∀ (k : Nat) (l : List α), (mkG f w k l).length = l.length
  | k, [] => rfl
  | k, x :: l => by rw [mkG, List.length_cons, mkG_len f w _ l, List.length_cons]
theorem wG_one {α : Type} (c : Nat) : ∀ l : List α, wG (fun _ => c) l = c * l.length
  | [] => rfl
  | x :: l => by rw [wG, wG_one c l, List.length_cons, Nat.mul_succ]; omega
theorem mkG_get {α : Type} {f : Nat → α → α} {w : α → Nat} {k : Nat} {l : List α} {i : Nat} {x : α} (hx : l[i]? = some x) : (mkG f w k l)[i]? = some (f (k + wG w (l.take i)) x) := by
  have hi : i < l.length := (List.getElem?_eq_some_iff.1 hx).1
  have hll : l = l.take i ++ x :: l.drop (i + 1) := by
    rw [List.getElem?_eq_getElem hi] at hx
    obtain rfl := Option.some.inj hx
    rw [← List.drop_eq_getElem_cons hi, List.take_append_drop]
  have hlen : (mkG f w k (l.take i)).length = i := by rw [mkG_len]; simp; omega
  conv => lhs; rw [hll]
  rw [mkG_app, mkG, List.getElem?_append_right (by omega), hlen, Nat.sub_self]
  rfl
noncomputable def mkField (k : Nat) (x : Field) : Field := ⟨mT k, ((k + 1 : Nat) : Int), ((k + 2 : Nat) : Int)⟩
theorem markFieldS_R (l : List Field) (k : Nat) (hk : k + wG (fun _ => 3) l ≤ 1099511627776) (hl : l.length ≤ 1099511627776) : R S0 63 [.slo 3 (l.map Field.pv), .int .i64 k] = some ⟨[some (.slo 3 ((mkG mkField (fun _ => 3) k l).map Field.pv)), none], .int .i64 (k + wG (fun _ => 3) l : Nat)⟩ := by
  refine go63 rfl ?_; simp only [go_sem, ↓reduceIte, Nat.reduceAdd, Nat.reduceSub, Nat.reduceEqDiff, Nat.reduceLT, Nat.reduceLeDiff, Nat.reduceMul, Int.reduceNeg, Int.reduceToNat, Int.reduceEq, Int.reduceLT, Int.reduceLE, reduceCtorEq, Tryz.f63]
  refine ends_for l.length (by omega) (fun i _ => mkSt [(0, .own 0), (1, .int .i64 (k + wG (fun _ => 3) (l.take i) : Nat)), (5, .int .i64 i), (1000000, .own 0)] [.slo 3 ((mkG mkField (fun _ => 3) k (l.take i) ++ l.drop i).map Field.pv)]) (fun i _ => True) 0 () (by omega) trivial ?_ ?_
  · rintro i _ hi - hw ih
    obtain ⟨q, hq, hg, hd⟩ := drop_get hi default
    have hqm := List.mem_of_getElem? hq
    have htk : l.take (i + 1) = l.take i ++ [q] := by rw [List.take_add_one, hq]; rfl
    have hll : l = l.take i ++ q :: l.drop (i + 1) := by rw [← hd, List.take_append_drop]
    have hsum : wG (fun _ => 3) l = wG (fun _ => 3) (l.take i) + ((fun _ => 3) q + wG (fun _ => 3) (l.drop (i + 1))) := by
      conv => lhs; rw [hll]
      rw [wG_app, wG]
    try dsimp only at hsum
    have ih := ih () trivial
    rw [htk, wG_app, mkG_app, wG, wG, mkG, mkG, Nat.add_zero] at ih
    obtain ⟨K, hK⟩ : ∃ K, K = k + wG (fun _ => 3) (l.take i) := ⟨_, rfl⟩
    rw [← Nat.add_assoc, ← hK] at ih
    rw [← hK]
    have hlen : (mkG mkField (fun _ => 3) k (l.take i)).length = i := by rw [mkG_len]; simp; omega
    obtain ⟨A, hA⟩ : ∃ A, A = mkG mkField (fun _ => 3) k (l.take i) := ⟨_, rfl⟩
    rw [← hA] at ih hlen ⊢
    rw [hd]
    obtain ⟨X, hX⟩ : ∃ X, X = A ++ q :: l.drop (i + 1) := ⟨_, rfl⟩
    rw [← hX]
    have hx : X[i]? = some q := by rw [hX, List.getElem?_append_right (by omega), hlen, Nat.sub_self]; rfl
    have hxi : i < X.length := by rw [hX]; simp; omega
    have hset : ∀ y, X.set i y = A ++ y :: l.drop (i + 1) := fun y => by rw [hX, List.set_append_right _ _ (by omega), hlen, Nat.sub_self]; rfl
    have w1 : IntKind.i64.wrap ((K : Int) + 1) = ((K + 1 : Nat) : Int) := by rw [wrap_in (by omega) (by omega)]; omega
    have w2 : IntKind.i64.wrap (((K + 1 : Nat) : Int) + 1) = ((K + 2 : Nat) : Int) := by rw [wrap_in (by omega) (by omega)]; omega
    have w3 : IntKind.i64.wrap (((K + 2 : Nat) : Int) + 1) = ((K + 3 : Nat) : Int) := by rw [wrap_in (by omega) (by omega)]; omega
    have b0 : K ≤ 1099511627776 := by omega
    have b1 : K + 1 ≤ 1099511627776 := by omega
    have b2 : K + 2 ≤ 1099511627776 := by omega
    rw [List.append_assoc, List.cons_append, List.nil_append] at ih
    simp only [go_sem, ↓reduceIte, Nat.reduceAdd, Nat.reduceSub, Nat.reduceEqDiff, Nat.reduceLT, Nat.reduceLeDiff, Nat.reduceMul, Int.reduceNeg, Int.reduceToNat, Int.reduceEq, Int.reduceLT, Int.reduceLE, reduceCtorEq, hi, hw, hx, hxi, w1, w2, w3, b0, b1, b2]
    rw [hset]
    exact ih
  · rintro _ -
    have hml := mkG_len mkField (fun _ => 3) k l
    rw [List.take_length, List.drop_length, List.append_nil]
    simp only [go_sem, ↓reduceIte, Nat.reduceAdd, Nat.reduceSub, Nat.reduceEqDiff, Nat.reduceLT, Nat.reduceLeDiff, Nat.reduceMul, Int.reduceNeg, Int.reduceToNat, Int.reduceEq, Int.reduceLT, Int.reduceLE, reduceCtorEq, hml]
theorem heldFieldS_R (l : List Field) (k : Nat) (hk : k + wG (fun _ => 3) l ≤ 1099511627776) (hl : l.length ≤ 1099511627776) : R S0 87 [.sl ((mkG mkField (fun _ => 3) k l).map Field.pv), .int .i64 k] = some ⟨[none, none], .int .i64 (k + wG (fun _ => 3) l : Nat)⟩ := by
  have hml := mkG_len mkField (fun _ => 3) k l
  refine go87 rfl ?_; simp only [go_sem, ↓reduceIte, Nat.reduceAdd, Nat.reduceSub, Nat.reduceEqDiff, Nat.reduceLT, Nat.reduceLeDiff, Nat.reduceMul, Int.reduceNeg, Int.reduceToNat, Int.reduceEq, Int.reduceLT, Int.reduceLE, reduceCtorEq, Tryz.f87]
  refine ends_for l.length (by omega) (fun i _ => mkSt [(0, .sl ((mkG mkField (fun _ => 3) k l).map Field.pv)), (1, .int .i64 (k + wG (fun _ => 3) (l.take i) : Nat)), (5, .int .i64 i)] []) (fun i _ => True) 0 () (by omega) trivial ?_ ?_
  · rintro i _ hi - hw ih
    obtain ⟨q, hq, hg, hd⟩ := drop_get hi default
    have hqm := List.mem_of_getElem? hq
    have htk : l.take (i + 1) = l.take i ++ [q] := by rw [List.take_add_one, hq]; rfl
    have hll : l = l.take i ++ q :: l.drop (i + 1) := by rw [← hd, List.take_append_drop]
    have hsum : wG (fun _ => 3) l = wG (fun _ => 3) (l.take i) + ((fun _ => 3) q + wG (fun _ => 3) (l.drop (i + 1))) := by
      conv => lhs; rw [hll]
      rw [wG_app, wG]
    try dsimp only at hsum
    have ih := ih () trivial
    rw [htk, wG_app, wG, wG, Nat.add_zero] at ih
    have hx0 := mkG_get (f := mkField) (w := (fun _ => 3)) (k := k) hq
    obtain ⟨K, hK⟩ : ∃ K, K = k + wG (fun _ => 3) (l.take i) := ⟨_, rfl⟩
    rw [← Nat.add_assoc, ← hK] at ih
    rw [← hK] at hx0 ⊢
    obtain ⟨M, hM⟩ : ∃ M, M = mkG mkField (fun _ => 3) k l := ⟨_, rfl⟩
    rw [← hM] at hx0 hml ih ⊢
    have hgx : M.getD i default = mkField K q := by rw [List.getD_eq_getElem?_getD, hx0]; rfl
    have hiM : i < M.length := by omega
    have w1 : IntKind.i64.wrap ((K : Int) + 1) = ((K + 1 : Nat) : Int) := by rw [wrap_in (by omega) (by omega)]; omega
    have w2 : IntKind.i64.wrap (((K + 1 : Nat) : Int) + 1) = ((K + 2 : Nat) : Int) := by rw [wrap_in (by omega) (by omega)]; omega
    have w3 : IntKind.i64.wrap (((K + 2 : Nat) : Int) + 1) = ((K + 3 : Nat) : Int) := by rw [wrap_in (by omega) (by omega)]; omega
    have b0 : K ≤ 1099511627776 := by omega
    have b1 : K + 1 ≤ 1099511627776 := by omega
    have b2 : K + 2 ≤ 1099511627776 := by omega
    rw [mkField] at hx0 hgx
    simp only [go_sem, ↓reduceIte, Nat.reduceAdd, Nat.reduceSub, Nat.reduceEqDiff, Nat.reduceLT, Nat.reduceLeDiff, Nat.reduceMul, Int.reduceNeg, Int.reduceToNat, Int.reduceEq, Int.reduceLT, Int.reduceLE, reduceCtorEq, hi, hw, hgx, hiM, hx0, w1, w2, w3, b0, b1, b2]
    exact ih
  · rintro _ -
    have hml2 : ¬ (l.length < (mkG mkField (fun _ => 3) k l).length) := by omega
    rw [List.take_length]
    simp only [go_sem, ↓reduceIte, Nat.reduceAdd, Nat.reduceSub, Nat.reduceEqDiff, Nat.reduceLT, Nat.reduceLeDiff, Nat.reduceMul, Int.reduceNeg, Int.reduceToNat, Int.reduceEq, Int.reduceLT, Int.reduceLE, reduceCtorEq, hml2]
noncomputable def mkCell (k : Nat) (x : Cell) : Cell := ⟨mT k, mT (k + 1)⟩
@[go_sem] theorem Cell.setE (l : List Cell) (i : Nat) (a : Str) (b : Str) : (l.map Cell.pv).set i (.agg [.str a, .str b]) = (l.set i (Cell.mk a b)).map Cell.pv := by rw [List.map_set]; rfl
@[go_sem] theorem Cell.reE (x : Cell) (off : Nat) (cs : List PV) : (Cell.pv x).reElem off cs = .agg (PV.putCells [.str x.name, .str x.text] off cs) := rfl
theorem markCellS_R (l : List Cell) (k : Nat) (hk : k + wG (fun _ => 2) l ≤ 1099511627776) (hl : l.length ≤ 1099511627776) : R S0 96 [.slo 2 (l.map Cell.pv), .int .i64 k] = some ⟨[some (.slo 2 ((mkG mkCell (fun _ => 2) k l).map Cell.pv)), none], .int .i64 (k + wG (fun _ => 2) l : Nat)⟩ := by
  refine go96 rfl ?_; simp only [go_sem, ↓reduceIte, Nat.reduceAdd, Nat.reduceSub, Nat.reduceEqDiff, Nat.reduceLT, Nat.reduceLeDiff, Nat.reduceMul, Int.reduceNeg, Int.reduceToNat, Int.reduceEq, Int.reduceLT, Int.reduceLE, reduceCtorEq, Tryz.f96]
  refine ends_for l.length (by omega) (fun i _ => mkSt [(0, .own 0), (1, .int .i64 (k + wG (fun _ => 2) (l.take i) : Nat)), (5, .int .i64 i), (1000000, .own 0)] [.slo 2 ((mkG mkCell (fun _ => 2) k (l.take i) ++ l.drop i).map Cell.pv)]) (fun i _ => True) 0 () (by omega) trivial ?_ ?_
  · rintro i _ hi - hw ih
    obtain ⟨q, hq, hg, hd⟩ := drop_get hi default
    have hqm := List.mem_of_getElem? hq
    have htk : l.take (i + 1) = l.take i ++ [q] := by rw [List.take_add_one, hq]; rfl
    have hll : l = l.take i ++ q :: l.drop (i + 1) := by rw [← hd, List.take_append_drop]
    have hsum : wG (fun _ => 2) l = wG (fun _ => 2) (l.take i) + ((fun _ => 2) q + wG (fun _ => 2) (l.drop (i + 1))) := by
      conv => lhs; rw [hll]
      rw [wG_app, wG]
    try dsimp only at hsum
    have ih := ih () trivial
    rw [htk, wG_app, mkG_app, wG, wG, mkG, mkG, Nat.add_zero] at ih
    obtain ⟨K, hK⟩ : ∃ K, K = k + wG (fun _ => 2) (l.take i) := ⟨_, rfl⟩
    rw [← Nat.add_assoc, ← hK] at ih
    rw [← hK]
    have hlen : (mkG mkCell (fun _ => 2) k (l.take i)).length = i := by rw [mkG_len]; simp; omega
    obtain ⟨A, hA⟩ : ∃ A, A = mkG mkCell (fun _ => 2) k (l.take i) := ⟨_, rfl⟩
    rw [← hA] at ih hlen ⊢
    rw [hd]
    obtain ⟨X, hX⟩ : ∃ X, X = A ++ q :: l.drop (i + 1) := ⟨_, rfl⟩
    rw [← hX]
    have hx : X[i]? = some q := by rw [hX, List.getElem?_append_right (by omega), hlen, Nat.sub_self]; rfl
    have hxi : i < X.length := by rw [hX]; simp; omega
    have hset : ∀ y, X.set i y = A ++ y :: l.drop (i + 1) := fun y => by rw [hX, List.set_append_right _ _ (by omega), hlen, Nat.sub_self]; rfl
    have w1 : IntKind.i64.wrap ((K : Int) + 1) = ((K + 1 : Nat) : Int) := by rw [wrap_in (by omega) (by omega)]; omega
    have w2 : IntKind.i64.wrap (((K + 1 : Nat) : Int) + 1) = ((K + 2 : Nat) : Int) := by rw [wrap_in (by omega) (by omega)]; omega
    have b0 : K ≤ 1099511627776 := by omega
    have b1 : K + 1 ≤ 1099511627776 := by omega
    rw [List.append_assoc, List.cons_append, List.nil_append] at ih
    simp only [go_sem, ↓reduceIte, Nat.reduceAdd, Nat.reduceSub, Nat.reduceEqDiff, Nat.reduceLT, Nat.reduceLeDiff, Nat.reduceMul, Int.reduceNeg, Int.reduceToNat, Int.reduceEq, Int.reduceLT, Int.reduceLE, reduceCtorEq, hi, hw, hx, hxi, w1, w2, b0, b1]
    rw [hset]
    exact ih
  · rintro _ -
    have hml := mkG_len mkCell (fun _ => 2) k l
    rw [List.take_length, List.drop_length, List.append_nil]
    simp only [go_sem, ↓reduceIte, Nat.reduceAdd, Nat.reduceSub, Nat.reduceEqDiff, Nat.reduceLT, Nat.reduceLeDiff, Nat.reduceMul, Int.reduceNeg, Int.reduceToNat, Int.reduceEq, Int.reduceLT, Int.reduceLE, reduceCtorEq, hml]
theorem heldCellS_R (l : List Cell) (k : Nat) (hk : k + wG (fun _ => 2) l ≤ 1099511627776) (hl : l.length ≤ 1099511627776) : R S0 140 [.sl ((mkG mkCell (fun _ => 2) k l).map Cell.pv), .int .i64 k] = some ⟨[none, none], .int .i64 (k + wG (fun _ => 2) l : Nat)⟩ := by
  have hml := mkG_len mkCell (fun _ => 2) k l
  refine go140 rfl ?_; simp only [go_sem, ↓reduceIte, Nat.reduceAdd, Nat.reduceSub, Nat.reduceEqDiff, Nat.reduceLT, Nat.reduceLeDiff, Nat.reduceMul, Int.reduceNeg, Int.reduceToNat, Int.reduceEq, Int.reduceLT, Int.reduceLE, reduceCtorEq, Tryz.f140]
  refine ends_for l.length (by omega) (fun i _ => mkSt [(0, .sl ((mkG mkCell (fun _ => 2) k l).map Cell.pv)), (1, .int .i64 (k + wG (fun _ => 2) (l.take i) : Nat)), (5, .int .i64 i)] []) (fun i _ => True) 0 () (by omega) trivial ?_ ?_
  · rintro i _ hi - hw ih
    obtain ⟨q, hq, hg, hd⟩ := drop_get hi default
    have hqm := List.mem_of_getElem? hq
    have htk : l.take (i + 1) = l.take i ++ [q] := by rw [List.take_add_one, hq]; rfl
    have hll : l = l.take i ++ q :: l.drop (i + 1) := by rw [← hd, List.take_append_drop]
    have hsum : wG (fun _ => 2) l = wG (fun _ => 2) (l.take i) + ((fun _ => 2) q + wG (fun _ => 2) (l.drop (i + 1))) := by
      conv => lhs; rw [hll]
      rw [wG_app, wG]
    try dsimp only at hsum
    have ih := ih () trivial
    rw [htk, wG_app, wG, wG, Nat.add_zero] at ih
    have hx0 := mkG_get (f := mkCell) (w := (fun _ => 2)) (k := k) hq
    obtain ⟨K, hK⟩ : ∃ K, K = k + wG (fun _ => 2) (l.take i) := ⟨_, rfl⟩
    rw [← Nat.add_assoc, ← hK] at ih
    rw [← hK] at hx0 ⊢
    obtain ⟨M, hM⟩ : ∃ M, M = mkG mkCell (fun _ => 2) k l := ⟨_, rfl⟩
    rw [← hM] at hx0 hml ih ⊢
    have hgx : M.getD i default = mkCell K q := by rw [List.getD_eq_getElem?_getD, hx0]; rfl
    have hiM : i < M.length := by omega
    have w1 : IntKind.i64.wrap ((K : Int) + 1) = ((K + 1 : Nat) : Int) := by rw [wrap_in (by omega) (by omega)]; omega
    have w2 : IntKind.i64.wrap (((K + 1 : Nat) : Int) + 1) = ((K + 2 : Nat) : Int) := by rw [wrap_in (by omega) (by omega)]; omega
    have b0 : K ≤ 1099511627776 := by omega
    have b1 : K + 1 ≤ 1099511627776 := by omega
    rw [mkCell] at hx0 hgx
    simp only [go_sem, ↓reduceIte, Nat.reduceAdd, Nat.reduceSub, Nat.reduceEqDiff, Nat.reduceLT, Nat.reduceLeDiff, Nat.reduceMul, Int.reduceNeg, Int.reduceToNat, Int.reduceEq, Int.reduceLT, Int.reduceLE, reduceCtorEq, hi, hw, hgx, hiM, hx0, w1, w2, b0, b1]
    exact ih
  · rintro _ -
    have hml2 : ¬ (l.length < (mkG mkCell (fun _ => 2) k l).length) := by omega
    rw [List.take_length]
    simp only [go_sem, ↓reduceIte, Nat.reduceAdd, Nat.reduceSub, Nat.reduceEqDiff, Nat.reduceLT, Nat.reduceLeDiff, Nat.reduceMul, Int.reduceNeg, Int.reduceToNat, Int.reduceEq, Int.reduceLT, Int.reduceLE, reduceCtorEq, hml2]
noncomputable def mkInt (k : Nat) (x : Int) : Int := ((k : Nat) : Int)
@[go_sem] theorem Int.setE (l : List Int) (i : Nat) (a : Int) : (l.map (PV.int .i64)).set i ((PV.int .i64) a) = (l.set i a).map (PV.int .i64) := by rw [List.map_set]
theorem markIntS_R (l : List Int) (k : Nat) (hk : k + wG (fun _ => 1) l ≤ 1099511627776) (hl : l.length ≤ 1099511627776) : R S0 19 [.slo 1 (l.map (PV.int .i64)), .int .i64 k] = some ⟨[some (.slo 1 ((mkG mkInt (fun _ => 1) k l).map (PV.int .i64))), none], .int .i64 (k + wG (fun _ => 1) l : Nat)⟩ := by
  refine go19 rfl ?_; simp only [go_sem, ↓reduceIte, Nat.reduceAdd, Nat.reduceSub, Nat.reduceEqDiff, Nat.reduceLT, Nat.reduceLeDiff, Nat.reduceMul, Int.reduceNeg, Int.reduceToNat, Int.reduceEq, Int.reduceLT, Int.reduceLE, reduceCtorEq, Tryz.f19]
  refine ends_for l.length (by omega) (fun i _ => mkSt [(0, .own 0), (1, .int .i64 (k + wG (fun _ => 1) (l.take i) : Nat)), (5, .int .i64 i), (1000000, .own 0)] [.slo 1 ((mkG mkInt (fun _ => 1) k (l.take i) ++ l.drop i).map (PV.int .i64))]) (fun i _ => True) 0 () (by omega) trivial ?_ ?_
  · rintro i _ hi - hw ih
    obtain ⟨q, hq, hg, hd⟩ := drop_get hi default
    have hqm := List.mem_of_getElem? hq
    have htk : l.take (i + 1) = l.take i ++ [q] := by rw [List.take_add_one, hq]; rfl
    have hll : l = l.take i ++ q :: l.drop (i + 1) := by rw [← hd, List.take_append_drop]
    have hsum : wG (fun _ => 1) l = wG (fun _ => 1) (l.take i) + ((fun _ => 1) q + wG (fun _ => 1) (l.drop (i + 1))) := by
      conv => lhs; rw [hll]
      rw [wG_app, wG]
    try dsimp only at hsum
    have ih := ih () trivial
    rw [htk, wG_app, mkG_app, wG, wG, mkG, mkG, Nat.add_zero] at ih
    obtain ⟨K, hK⟩ : ∃ K, K = k + wG (fun _ => 1) (l.take i) := ⟨_, rfl⟩
    rw [← Nat.add_assoc, ← hK] at ih
    rw [← hK]
    have hlen : (mkG mkInt (fun _ => 1) k (l.take i)).length = i := by rw [mkG_len]; simp; omega
    obtain ⟨A, hA⟩ : ∃ A, A = mkG mkInt (fun _ => 1) k (l.take i) := ⟨_, rfl⟩
    rw [← hA] at ih hlen ⊢
    rw [hd]
    obtain ⟨X, hX⟩ : ∃ X, X = A ++ q :: l.drop (i + 1) := ⟨_, rfl⟩
    rw [← hX]
    have hx : X[i]? = some q := by rw [hX, List.getElem?_append_right (by omega), hlen, Nat.sub_self]; rfl
    have hxi : i < X.length := by rw [hX]; simp; omega
    have hset : ∀ y, X.set i y = A ++ y :: l.drop (i + 1) := fun y => by rw [hX, List.set_append_right _ _ (by omega), hlen, Nat.sub_self]; rfl
    have w1 : IntKind.i64.wrap ((K : Int) + 1) = ((K + 1 : Nat) : Int) := by rw [wrap_in (by omega) (by omega)]; omega
    have b0 : K ≤ 1099511627776 := by omega
    rw [List.append_assoc, List.cons_append, List.nil_append] at ih
    simp only [go_sem, ↓reduceIte, Nat.reduceAdd, Nat.reduceSub, Nat.reduceEqDiff, Nat.reduceLT, Nat.reduceLeDiff, Nat.reduceMul, Int.reduceNeg, Int.reduceToNat, Int.reduceEq, Int.reduceLT, Int.reduceLE, reduceCtorEq, hi, hw, hx, hxi, w1, b0]
    rw [hset]
    exact ih
  · rintro _ -
    have hml := mkG_len mkInt (fun _ => 1) k l
    rw [List.take_length, List.drop_length, List.append_nil]
    simp only [go_sem, ↓reduceIte, Nat.reduceAdd, Nat.reduceSub, Nat.reduceEqDiff, Nat.reduceLT, Nat.reduceLeDiff, Nat.reduceMul, Int.reduceNeg, Int.reduceToNat, Int.reduceEq, Int.reduceLT, Int.reduceLE, reduceCtorEq, hml]
theorem heldIntS_R (l : List Int) (k : Nat) (hk : k + wG (fun _ => 1) l ≤ 1099511627776) (hl : l.length ≤ 1099511627776) : R S0 24 [.sl ((mkG mkInt (fun _ => 1) k l).map (PV.int .i64)), .int .i64 k] = some ⟨[none, none], .int .i64 (k + wG (fun _ => 1) l : Nat)⟩ := by
  have hml := mkG_len mkInt (fun _ => 1) k l
  refine go24 rfl ?_; simp only [go_sem, ↓reduceIte, Nat.reduceAdd, Nat.reduceSub, Nat.reduceEqDiff, Nat.reduceLT, Nat.reduceLeDiff, Nat.reduceMul, Int.reduceNeg, Int.reduceToNat, Int.reduceEq, Int.reduceLT, Int.reduceLE, reduceCtorEq, Tryz.f24]
  refine ends_for l.length (by omega) (fun i _ => mkSt [(0, .sl ((mkG mkInt (fun _ => 1) k l).map (PV.int .i64))), (1, .int .i64 (k + wG (fun _ => 1) (l.take i) : Nat)), (5, .int .i64 i)] []) (fun i _ => True) 0 () (by omega) trivial ?_ ?_
  · rintro i _ hi - hw ih
    obtain ⟨q, hq, hg, hd⟩ := drop_get hi default
    have hqm := List.mem_of_getElem? hq
    have htk : l.take (i + 1) = l.take i ++ [q] := by rw [List.take_add_one, hq]; rfl
    have hll : l = l.take i ++ q :: l.drop (i + 1) := by rw [← hd, List.take_append_drop]
    have hsum : wG (fun _ => 1) l = wG (fun _ => 1) (l.take i) + ((fun _ => 1) q + wG (fun _ => 1) (l.drop (i + 1))) := by
      conv => lhs; rw [hll]
      rw [wG_app, wG]
    try dsimp only at hsum
    have ih := ih () trivial
    rw [htk, wG_app, wG, wG, Nat.add_zero] at ih
    have hx0 := mkG_get (f := mkInt) (w := (fun _ => 1)) (k := k) hq
    obtain ⟨K, hK⟩ : ∃ K, K = k + wG (fun _ => 1) (l.take i) := ⟨_, rfl⟩
    rw [← Nat.add_assoc, ← hK] at ih
    rw [← hK] at hx0 ⊢
    obtain ⟨M, hM⟩ : ∃ M, M = mkG mkInt (fun _ => 1) k l := ⟨_, rfl⟩
    rw [← hM] at hx0 hml ih ⊢
    have hgx : M.getD i default = mkInt K q := by rw [List.getD_eq_getElem?_getD, hx0]; rfl
    have hiM : i < M.length := by omega
    have w1 : IntKind.i64.wrap ((K : Int) + 1) = ((K + 1 : Nat) : Int) := by rw [wrap_in (by omega) (by omega)]; omega
    have b0 : K ≤ 1099511627776 := by omega
    rw [mkInt] at hx0 hgx
    simp only [go_sem, ↓reduceIte, Nat.reduceAdd, Nat.reduceSub, Nat.reduceEqDiff, Nat.reduceLT, Nat.reduceLeDiff, Nat.reduceMul, Int.reduceNeg, Int.reduceToNat, Int.reduceEq, Int.reduceLT, Int.reduceLE, reduceCtorEq, hi, hw, hgx, hiM, hx0, w1, b0]
    exact ih
  · rintro _ -
    have hml2 : ¬ (l.length < (mkG mkInt (fun _ => 1) k l).length) := by omega
    rw [List.take_length]
    simp only [go_sem, ↓reduceIte, Nat.reduceAdd, Nat.reduceSub, Nat.reduceEqDiff, Nat.reduceLT, Nat.reduceLeDiff, Nat.reduceMul, Int.reduceNeg, Int.reduceToNat, Int.reduceEq, Int.reduceLT, Int.reduceLE, reduceCtorEq, hml2]
@[go_sem] theorem String.setE (l : List Str) (i : Nat) (a : Str) : (l.map PV.str).set i (PV.str a) = (l.set i a).map PV.str := by rw [List.map_set]
noncomputable def mkRow (k : Nat) (x : DRow) : DRow := ⟨((k : Nat) : Int), ⟨mT (k + 1), mkG mkCell (fun _ => 2) (k + 2) x.doc.cells⟩⟩
def wRow (x : DRow) : Nat := 2 + wG (fun _ => 2) x.doc.cells
@[go_sem] theorem Row.setE (l : List DRow) (i : Nat) (a : Int) (b : Str) (c : List Cell) : (l.map DRow.pv).set i (.agg [.int .i64 a, .str b, .slo 2 (c.map Cell.pv)]) = (l.set i (DRow.mk a (Doc.mk b c))).map DRow.pv := by rw [List.map_set]; rfl
@[go_sem] theorem Row.reE (x : DRow) (off : Nat) (cs : List PV) : (DRow.pv x).reElem off cs = .agg (PV.putCells [.int .i64 x.id, .str x.doc.key, .slo 2 (x.doc.cells.map Cell.pv)] off cs) := rfl
theorem markRowS_R (l : List DRow) (k : Nat) (hk : k + wG wRow l ≤ 1099511627776) (hl : l.length ≤ 1099511627776) (hs : ∀ x ∈ l, x.doc.cells.length ≤ 1099511627776) : R S0 64 [.slo 3 (l.map DRow.pv), .int .i64 k] = some ⟨[some (.slo 3 ((mkG mkRow wRow k l).map DRow.pv)), none], .int .i64 (k + wG wRow l : Nat)⟩ := by
  refine go64 rfl ?_; simp only [go_sem, ↓reduceIte, Nat.reduceAdd, Nat.reduceSub, Nat.reduceEqDiff, Nat.reduceLT, Nat.reduceLeDiff, Nat.reduceMul, Int.reduceNeg, Int.reduceToNat, Int.reduceEq, Int.reduceLT, Int.reduceLE, reduceCtorEq, Tryz.f64]
  refine ends_for l.length (by omega) (fun i _ => mkSt [(0, .own 0), (1, .int .i64 (k + wG wRow (l.take i) : Nat)), (5, .int .i64 i), (1000000, .own 0)] [.slo 3 ((mkG mkRow wRow k (l.take i) ++ l.drop i).map DRow.pv)]) (fun i _ => True) 0 () (by omega) trivial ?_ ?_
  · rintro i _ hi - hw ih
    obtain ⟨q, hq, hg, hd⟩ := drop_get hi default
    have hqm := List.mem_of_getElem? hq
    have htk : l.take (i + 1) = l.take i ++ [q] := by rw [List.take_add_one, hq]; rfl
    have hll : l = l.take i ++ q :: l.drop (i + 1) := by rw [← hd, List.take_append_drop]
    have hsum : wG wRow l = wG wRow (l.take i) + (wRow q + wG wRow (l.drop (i + 1))) := by
      conv => lhs; rw [hll]
      rw [wG_app, wG]
    try dsimp only at hsum
    have hw0 : wRow q = 2 + wG (fun _ => 2) q.doc.cells := rfl
    have ih := ih () trivial
    rw [htk, wG_app, mkG_app, wG, wG, mkG, mkG, Nat.add_zero] at ih
    obtain ⟨K, hK⟩ : ∃ K, K = k + wG wRow (l.take i) := ⟨_, rfl⟩
    rw [← Nat.add_assoc, ← hK] at ih
    rw [← hK]
    have hlen : (mkG mkRow wRow k (l.take i)).length = i := by rw [mkG_len]; simp; omega
    obtain ⟨A, hA⟩ : ∃ A, A = mkG mkRow wRow k (l.take i) := ⟨_, rfl⟩
    rw [← hA] at ih hlen ⊢
    rw [hd]
    obtain ⟨X, hX⟩ : ∃ X, X = A ++ q :: l.drop (i + 1) := ⟨_, rfl⟩
    rw [← hX]
    have hx : X[i]? = some q := by rw [hX, List.getElem?_append_right (by omega), hlen, Nat.sub_self]; rfl
    have hxi : i < X.length := by rw [hX]; simp; omega
    have hset : ∀ y, X.set i y = A ++ y :: l.drop (i + 1) := fun y => by rw [hX, List.set_append_right _ _ (by omega), hlen, Nat.sub_self]; rfl
    have w1 : IntKind.i64.wrap ((K : Int) + 1) = ((K + 1 : Nat) : Int) := by rw [wrap_in (by omega) (by omega)]; omega
    have w2 : IntKind.i64.wrap (((K + 1 : Nat) : Int) + 1) = ((K + 2 : Nat) : Int) := by rw [wrap_in (by omega) (by omega)]; omega
    have b0 : K ≤ 1099511627776 := by omega
    have b1 : K + 1 ≤ 1099511627776 := by omega
    have hwq : wRow q = 2 + wG (fun _ => 2) q.doc.cells := rfl
    have hr := markCellS_R q.doc.cells (K + 2) (by omega) (hs q hqm)
    rw [hwq, ← Nat.add_assoc] at ih
    rw [List.append_assoc, List.cons_append, List.nil_append] at ih
    simp only [go_sem, ↓reduceIte, Nat.reduceAdd, Nat.reduceSub, Nat.reduceEqDiff, Nat.reduceLT, Nat.reduceLeDiff, Nat.reduceMul, Int.reduceNeg, Int.reduceToNat, Int.reduceEq, Int.reduceLT, Int.reduceLE, reduceCtorEq, hi, hw, hx, hxi, hr, w1, w2, b0, b1]
    rw [hset]
    exact ih
  · rintro _ -
    have hml := mkG_len mkRow wRow k l
    rw [List.take_length, List.drop_length, List.append_nil]
    simp only [go_sem, ↓reduceIte, Nat.reduceAdd, Nat.reduceSub, Nat.reduceEqDiff, Nat.reduceLT, Nat.reduceLeDiff, Nat.reduceMul, Int.reduceNeg, Int.reduceToNat, Int.reduceEq, Int.reduceLT, Int.reduceLE, reduceCtorEq, hml]
theorem heldRowS_R (l : List DRow) (k : Nat) (hk : k + wG wRow l ≤ 1099511627776) (hl : l.length ≤ 1099511627776) (hs : ∀ x ∈ l, x.doc.cells.length ≤ 1099511627776) : R S0 88 [.sl ((mkG mkRow wRow k l).map DRow.pvF), .int .i64 k] = some ⟨[none, none], .int .i64 (k + wG wRow l : Nat)⟩ := by
  have hml := mkG_len mkRow wRow k l
  refine go88 rfl ?_; simp only [go_sem, ↓reduceIte, Nat.reduceAdd, Nat.reduceSub, Nat.reduceEqDiff, Nat.reduceLT, Nat.reduceLeDiff, Nat.reduceMul, Int.reduceNeg, Int.reduceToNat, Int.reduceEq, Int.reduceLT, Int.reduceLE, reduceCtorEq, Tryz.f88]
  refine ends_for l.length (by omega) (fun i _ => mkSt [(0, .sl ((mkG mkRow wRow k l).map DRow.pvF)), (1, .int .i64 (k + wG wRow (l.take i) : Nat)), (5, .int .i64 i)] []) (fun i _ => True) 0 () (by omega) trivial ?_ ?_
  · rintro i _ hi - hw ih
    obtain ⟨q, hq, hg, hd⟩ := drop_get hi default
    have hqm := List.mem_of_getElem? hq
    have htk : l.take (i + 1) = l.take i ++ [q] := by rw [List.take_add_one, hq]; rfl
    have hll : l = l.take i ++ q :: l.drop (i + 1) := by rw [← hd, List.take_append_drop]
    have hsum : wG wRow l = wG wRow (l.take i) + (wRow q + wG wRow (l.drop (i + 1))) := by
      conv => lhs; rw [hll]
      rw [wG_app, wG]
    try dsimp only at hsum
    have hw0 : wRow q = 2 + wG (fun _ => 2) q.doc.cells := rfl
    have ih := ih () trivial
    rw [htk, wG_app, wG, wG, Nat.add_zero] at ih
    have hx0 := mkG_get (f := mkRow) (w := wRow) (k := k) hq
    obtain ⟨K, hK⟩ : ∃ K, K = k + wG wRow (l.take i) := ⟨_, rfl⟩
    rw [← Nat.add_assoc, ← hK] at ih
    rw [← hK] at hx0 ⊢
    obtain ⟨M, hM⟩ : ∃ M, M = mkG mkRow wRow k l := ⟨_, rfl⟩
    rw [← hM] at hx0 hml ih ⊢
    have hgx : M.getD i default = mkRow K q := by rw [List.getD_eq_getElem?_getD, hx0]; rfl
    have hiM : i < M.length := by omega
    have w1 : IntKind.i64.wrap ((K : Int) + 1) = ((K + 1 : Nat) : Int) := by rw [wrap_in (by omega) (by omega)]; omega
    have w2 : IntKind.i64.wrap (((K + 1 : Nat) : Int) + 1) = ((K + 2 : Nat) : Int) := by rw [wrap_in (by omega) (by omega)]; omega
    have b0 : K ≤ 1099511627776 := by omega
    have b1 : K + 1 ≤ 1099511627776 := by omega
    have hwq : wRow q = 2 + wG (fun _ => 2) q.doc.cells := rfl
    have hr := heldCellS_R q.doc.cells (K + 2) (by omega) (hs q hqm)
    rw [hwq, ← Nat.add_assoc] at ih
    have b9 : ¬ ((K + 2 + wG (fun _ => 2) q.doc.cells : Nat) : Int) < 0 := by omega
    rw [mkRow] at hx0 hgx
    simp only [go_sem, ↓reduceIte, Nat.reduceAdd, Nat.reduceSub, Nat.reduceEqDiff, Nat.reduceLT, Nat.reduceLeDiff, Nat.reduceMul, Int.reduceNeg, Int.reduceToNat, Int.reduceEq, Int.reduceLT, Int.reduceLE, reduceCtorEq, hi, hw, hgx, hiM, hx0, hr, b9, w1, w2, b0, b1]
    exact ih
  · rintro _ -
    have hml2 : ¬ (l.length < (mkG mkRow wRow k l).length) := by omega
    rw [List.take_length]
    simp only [go_sem, ↓reduceIte, Nat.reduceAdd, Nat.reduceSub, Nat.reduceEqDiff, Nat.reduceLT, Nat.reduceLeDiff, Nat.reduceMul, Int.reduceNeg, Int.reduceToNat, Int.reduceEq, Int.reduceLT, Int.reduceLE, reduceCtorEq, hml2]
noncomputable def mkPost (k : Nat) (x : Post) : Post := ⟨((k : Nat) : Int), mkG mkInt (fun _ => 1) (k + 1) x.ats⟩
def wPost (x : Post) : Nat := 1 + wG (fun _ => 1) x.ats
@[go_sem] theorem Post.setE (l : List Post) (i : Nat) (a : Int) (b : List Int) : (l.map Post.pv).set i (.agg [.int .i64 a, .slo 1 (b.map (PV.int .i64))]) = (l.set i (Post.mk a b)).map Post.pv := by rw [List.map_set]; rfl
@[go_sem] theorem Post.reE (x : Post) (off : Nat) (cs : List PV) : (Post.pv x).reElem off cs = .agg (PV.putCells [.int .i64 x.doc, .slo 1 (x.ats.map (PV.int .i64))] off cs) := rfl
theorem markPostS_R (l : List Post) (k : Nat) (hk : k + wG wPost l ≤ 1099511627776) (hl : l.length ≤ 1099511627776) (hs : ∀ x ∈ l, x.ats.length ≤ 1099511627776) : R S0 130 [.slo 2 (l.map Post.pv), .int .i64 k] = some ⟨[some (.slo 2 ((mkG mkPost wPost k l).map Post.pv)), none], .int .i64 (k + wG wPost l : Nat)⟩ := by
  refine go130 rfl ?_; simp only [go_sem, ↓reduceIte, Nat.reduceAdd, Nat.reduceSub, Nat.reduceEqDiff, Nat.reduceLT, Nat.reduceLeDiff, Nat.reduceMul, Int.reduceNeg, Int.reduceToNat, Int.reduceEq, Int.reduceLT, Int.reduceLE, reduceCtorEq, Tryz.f130]
  refine ends_for l.length (by omega) (fun i _ => mkSt [(0, .own 0), (1, .int .i64 (k + wG wPost (l.take i) : Nat)), (5, .int .i64 i), (1000000, .own 0)] [.slo 2 ((mkG mkPost wPost k (l.take i) ++ l.drop i).map Post.pv)]) (fun i _ => True) 0 () (by omega) trivial ?_ ?_
  · rintro i _ hi - hw ih
    obtain ⟨q, hq, hg, hd⟩ := drop_get hi default
    have hqm := List.mem_of_getElem? hq
    have htk : l.take (i + 1) = l.take i ++ [q] := by rw [List.take_add_one, hq]; rfl
    have hll : l = l.take i ++ q :: l.drop (i + 1) := by rw [← hd, List.take_append_drop]
    have hsum : wG wPost l = wG wPost (l.take i) + (wPost q + wG wPost (l.drop (i + 1))) := by
      conv => lhs; rw [hll]
      rw [wG_app, wG]
    try dsimp only at hsum
    have hw0 : wPost q = 1 + wG (fun _ => 1) q.ats := rfl
    have ih := ih () trivial
    rw [htk, wG_app, mkG_app, wG, wG, mkG, mkG, Nat.add_zero] at ih
    obtain ⟨K, hK⟩ : ∃ K, K = k + wG wPost (l.take i) := ⟨_, rfl⟩
    rw [← Nat.add_assoc, ← hK] at ih
    rw [← hK]
    have hlen : (mkG mkPost wPost k (l.take i)).length = i := by rw [mkG_len]; simp; omega
    obtain ⟨A, hA⟩ : ∃ A, A = mkG mkPost wPost k (l.take i) := ⟨_, rfl⟩
    rw [← hA] at ih hlen ⊢
    rw [hd]
    obtain ⟨X, hX⟩ : ∃ X, X = A ++ q :: l.drop (i + 1) := ⟨_, rfl⟩
    rw [← hX]
    have hx : X[i]? = some q := by rw [hX, List.getElem?_append_right (by omega), hlen, Nat.sub_self]; rfl
    have hxi : i < X.length := by rw [hX]; simp; omega
    have hset : ∀ y, X.set i y = A ++ y :: l.drop (i + 1) := fun y => by rw [hX, List.set_append_right _ _ (by omega), hlen, Nat.sub_self]; rfl
    have w1 : IntKind.i64.wrap ((K : Int) + 1) = ((K + 1 : Nat) : Int) := by rw [wrap_in (by omega) (by omega)]; omega
    have b0 : K ≤ 1099511627776 := by omega
    have hwq : wPost q = 1 + wG (fun _ => 1) q.ats := rfl
    have hr := markIntS_R q.ats (K + 1) (by omega) (hs q hqm)
    rw [hwq, ← Nat.add_assoc] at ih
    rw [List.append_assoc, List.cons_append, List.nil_append] at ih
    simp only [go_sem, ↓reduceIte, Nat.reduceAdd, Nat.reduceSub, Nat.reduceEqDiff, Nat.reduceLT, Nat.reduceLeDiff, Nat.reduceMul, Int.reduceNeg, Int.reduceToNat, Int.reduceEq, Int.reduceLT, Int.reduceLE, reduceCtorEq, hi, hw, hx, hxi, hr, w1, b0]
    rw [hset]
    exact ih
  · rintro _ -
    have hml := mkG_len mkPost wPost k l
    rw [List.take_length, List.drop_length, List.append_nil]
    simp only [go_sem, ↓reduceIte, Nat.reduceAdd, Nat.reduceSub, Nat.reduceEqDiff, Nat.reduceLT, Nat.reduceLeDiff, Nat.reduceMul, Int.reduceNeg, Int.reduceToNat, Int.reduceEq, Int.reduceLT, Int.reduceLE, reduceCtorEq, hml]
theorem heldPostS_R (l : List Post) (k : Nat) (hk : k + wG wPost l ≤ 1099511627776) (hl : l.length ≤ 1099511627776) (hs : ∀ x ∈ l, x.ats.length ≤ 1099511627776) : R S0 141 [.sl ((mkG mkPost wPost k l).map Post.pvF), .int .i64 k] = some ⟨[none, none], .int .i64 (k + wG wPost l : Nat)⟩ := by
  have hml := mkG_len mkPost wPost k l
  refine go141 rfl ?_; simp only [go_sem, ↓reduceIte, Nat.reduceAdd, Nat.reduceSub, Nat.reduceEqDiff, Nat.reduceLT, Nat.reduceLeDiff, Nat.reduceMul, Int.reduceNeg, Int.reduceToNat, Int.reduceEq, Int.reduceLT, Int.reduceLE, reduceCtorEq, Tryz.f141]
  refine ends_for l.length (by omega) (fun i _ => mkSt [(0, .sl ((mkG mkPost wPost k l).map Post.pvF)), (1, .int .i64 (k + wG wPost (l.take i) : Nat)), (5, .int .i64 i)] []) (fun i _ => True) 0 () (by omega) trivial ?_ ?_
  · rintro i _ hi - hw ih
    obtain ⟨q, hq, hg, hd⟩ := drop_get hi default
    have hqm := List.mem_of_getElem? hq
    have htk : l.take (i + 1) = l.take i ++ [q] := by rw [List.take_add_one, hq]; rfl
    have hll : l = l.take i ++ q :: l.drop (i + 1) := by rw [← hd, List.take_append_drop]
    have hsum : wG wPost l = wG wPost (l.take i) + (wPost q + wG wPost (l.drop (i + 1))) := by
      conv => lhs; rw [hll]
      rw [wG_app, wG]
    try dsimp only at hsum
    have hw0 : wPost q = 1 + wG (fun _ => 1) q.ats := rfl
    have ih := ih () trivial
    rw [htk, wG_app, wG, wG, Nat.add_zero] at ih
    have hx0 := mkG_get (f := mkPost) (w := wPost) (k := k) hq
    obtain ⟨K, hK⟩ : ∃ K, K = k + wG wPost (l.take i) := ⟨_, rfl⟩
    rw [← Nat.add_assoc, ← hK] at ih
    rw [← hK] at hx0 ⊢
    obtain ⟨M, hM⟩ : ∃ M, M = mkG mkPost wPost k l := ⟨_, rfl⟩
    rw [← hM] at hx0 hml ih ⊢
    have hgx : M.getD i default = mkPost K q := by rw [List.getD_eq_getElem?_getD, hx0]; rfl
    have hiM : i < M.length := by omega
    have w1 : IntKind.i64.wrap ((K : Int) + 1) = ((K + 1 : Nat) : Int) := by rw [wrap_in (by omega) (by omega)]; omega
    have b0 : K ≤ 1099511627776 := by omega
    have hwq : wPost q = 1 + wG (fun _ => 1) q.ats := rfl
    have hr := heldIntS_R q.ats (K + 1) (by omega) (hs q hqm)
    rw [hwq, ← Nat.add_assoc] at ih
    have b9 : ¬ ((K + 1 + wG (fun _ => 1) q.ats : Nat) : Int) < 0 := by omega
    rw [mkPost] at hx0 hgx
    simp only [go_sem, ↓reduceIte, Nat.reduceAdd, Nat.reduceSub, Nat.reduceEqDiff, Nat.reduceLT, Nat.reduceLeDiff, Nat.reduceMul, Int.reduceNeg, Int.reduceToNat, Int.reduceEq, Int.reduceLT, Int.reduceLE, reduceCtorEq, hi, hw, hgx, hiM, hx0, hr, b9, w1, b0]
    exact ih
  · rintro _ -
    have hml2 : ¬ (l.length < (mkG mkPost wPost k l).length) := by omega
    rw [List.take_length]
    simp only [go_sem, ↓reduceIte, Nat.reduceAdd, Nat.reduceSub, Nat.reduceEqDiff, Nat.reduceLT, Nat.reduceLeDiff, Nat.reduceMul, Int.reduceNeg, Int.reduceToNat, Int.reduceEq, Int.reduceLT, Int.reduceLE, reduceCtorEq, hml2]
noncomputable def mkEntry (k : Nat) (x : Entry) : Entry := ⟨mT k, mT (k + 1), mkG mkPost wPost (k + 2) x.posts⟩
def wEntry (x : Entry) : Nat := 2 + wG wPost x.posts
@[go_sem] theorem Entry.setE (l : List Entry) (i : Nat) (a : Str) (b : Str) (c : List Post) : (l.map Entry.pv).set i (.agg [.str a, .str b, .slo 2 (c.map Post.pv)]) = (l.set i (Entry.mk a b c)).map Entry.pv := by rw [List.map_set]; rfl
@[go_sem] theorem Entry.reE (x : Entry) (off : Nat) (cs : List PV) : (Entry.pv x).reElem off cs = .agg (PV.putCells [.str x.field, .str x.term, .slo 2 (x.posts.map Post.pv)] off cs) := rfl
theorem markEntryS_R (l : List Entry) (k : Nat) (hk : k + wG wEntry l ≤ 1099511627776) (hl : l.length ≤ 1099511627776) (hs : ∀ x ∈ l, x.posts.length ≤ 1099511627776 ∧ ∀ y ∈ x.posts, y.ats.length ≤ 1099511627776) : R S0 65 [.slo 3 (l.map Entry.pv), .int .i64 k] = some ⟨[some (.slo 3 ((mkG mkEntry wEntry k l).map Entry.pv)), none], .int .i64 (k + wG wEntry l : Nat)⟩ := by
  refine go65 rfl ?_; simp only [go_sem, ↓reduceIte, Nat.reduceAdd, Nat.reduceSub, Nat.reduceEqDiff, Nat.reduceLT, Nat.reduceLeDiff, Nat.reduceMul, Int.reduceNeg, Int.reduceToNat, Int.reduceEq, Int.reduceLT, Int.reduceLE, reduceCtorEq, Tryz.f65]
  refine ends_for l.length (by omega) (fun i _ => mkSt [(0, .own 0), (1, .int .i64 (k + wG wEntry (l.take i) : Nat)), (5, .int .i64 i), (1000000, .own 0)] [.slo 3 ((mkG mkEntry wEntry k (l.take i) ++ l.drop i).map Entry.pv)]) (fun i _ => True) 0 () (by omega) trivial ?_ ?_
  · rintro i _ hi - hw ih
    obtain ⟨q, hq, hg, hd⟩ := drop_get hi default
    have hqm := List.mem_of_getElem? hq
    have htk : l.take (i + 1) = l.take i ++ [q] := by rw [List.take_add_one, hq]; rfl
    have hll : l = l.take i ++ q :: l.drop (i + 1) := by rw [← hd, List.take_append_drop]
    have hsum : wG wEntry l = wG wEntry (l.take i) + (wEntry q + wG wEntry (l.drop (i + 1))) := by
      conv => lhs; rw [hll]
      rw [wG_app, wG]
    try dsimp only at hsum
    have hw0 : wEntry q = 2 + wG wPost q.posts := rfl
    have ih := ih () trivial
    rw [htk, wG_app, mkG_app, wG, wG, mkG, mkG, Nat.add_zero] at ih
    obtain ⟨K, hK⟩ : ∃ K, K = k + wG wEntry (l.take i) := ⟨_, rfl⟩
    rw [← Nat.add_assoc, ← hK] at ih
    rw [← hK]
    have hlen : (mkG mkEntry wEntry k (l.take i)).length = i := by rw [mkG_len]; simp; omega
    obtain ⟨A, hA⟩ : ∃ A, A = mkG mkEntry wEntry k (l.take i) := ⟨_, rfl⟩
    rw [← hA] at ih hlen ⊢
    rw [hd]
    obtain ⟨X, hX⟩ : ∃ X, X = A ++ q :: l.drop (i + 1) := ⟨_, rfl⟩
    rw [← hX]
    have hx : X[i]? = some q := by rw [hX, List.getElem?_append_right (by omega), hlen, Nat.sub_self]; rfl
    have hxi : i < X.length := by rw [hX]; simp; omega
    have hset : ∀ y, X.set i y = A ++ y :: l.drop (i + 1) := fun y => by rw [hX, List.set_append_right _ _ (by omega), hlen, Nat.sub_self]; rfl
    have w1 : IntKind.i64.wrap ((K : Int) + 1) = ((K + 1 : Nat) : Int) := by rw [wrap_in (by omega) (by omega)]; omega
    have w2 : IntKind.i64.wrap (((K + 1 : Nat) : Int) + 1) = ((K + 2 : Nat) : Int) := by rw [wrap_in (by omega) (by omega)]; omega
    have b0 : K ≤ 1099511627776 := by omega
    have b1 : K + 1 ≤ 1099511627776 := by omega
    have hwq : wEntry q = 2 + wG wPost q.posts := rfl
    have hr := markPostS_R q.posts (K + 2) (by omega) (hs q hqm).1 (hs q hqm).2
    rw [hwq, ← Nat.add_assoc] at ih
    rw [List.append_assoc, List.cons_append, List.nil_append] at ih
    simp only [go_sem, ↓reduceIte, Nat.reduceAdd, Nat.reduceSub, Nat.reduceEqDiff, Nat.reduceLT, Nat.reduceLeDiff, Nat.reduceMul, Int.reduceNeg, Int.reduceToNat, Int.reduceEq, Int.reduceLT, Int.reduceLE, reduceCtorEq, hi, hw, hx, hxi, hr, w1, w2, b0, b1]
    rw [hset]
    exact ih
  · rintro _ -
    have hml := mkG_len mkEntry wEntry k l
    rw [List.take_length, List.drop_length, List.append_nil]
    simp only [go_sem, ↓reduceIte, Nat.reduceAdd, Nat.reduceSub, Nat.reduceEqDiff, Nat.reduceLT, Nat.reduceLeDiff, Nat.reduceMul, Int.reduceNeg, Int.reduceToNat, Int.reduceEq, Int.reduceLT, Int.reduceLE, reduceCtorEq, hml]
theorem heldEntryS_R (l : List Entry) (k : Nat) (hk : k + wG wEntry l ≤ 1099511627776) (hl : l.length ≤ 1099511627776) (hs : ∀ x ∈ l, x.posts.length ≤ 1099511627776 ∧ ∀ y ∈ x.posts, y.ats.length ≤ 1099511627776) : R S0 89 [.sl ((mkG mkEntry wEntry k l).map Entry.pvF), .int .i64 k] = some ⟨[none, none], .int .i64 (k + wG wEntry l : Nat)⟩ := by
  have hml := mkG_len mkEntry wEntry k l
  refine go89 rfl ?_; simp only [go_sem, ↓reduceIte, Nat.reduceAdd, Nat.reduceSub, Nat.reduceEqDiff, Nat.reduceLT, Nat.reduceLeDiff, Nat.reduceMul, Int.reduceNeg, Int.reduceToNat, Int.reduceEq, Int.reduceLT, Int.reduceLE, reduceCtorEq, Tryz.f89]
  refine ends_for l.length (by omega) (fun i _ => mkSt [(0, .sl ((mkG mkEntry wEntry k l).map Entry.pvF)), (1, .int .i64 (k + wG wEntry (l.take i) : Nat)), (5, .int .i64 i)] []) (fun i _ => True) 0 () (by omega) trivial ?_ ?_
  · rintro i _ hi - hw ih
    obtain ⟨q, hq, hg, hd⟩ := drop_get hi default
    have hqm := List.mem_of_getElem? hq
    have htk : l.take (i + 1) = l.take i ++ [q] := by rw [List.take_add_one, hq]; rfl
    have hll : l = l.take i ++ q :: l.drop (i + 1) := by rw [← hd, List.take_append_drop]
    have hsum : wG wEntry l = wG wEntry (l.take i) + (wEntry q + wG wEntry (l.drop (i + 1))) := by
      conv => lhs; rw [hll]
      rw [wG_app, wG]
    try dsimp only at hsum
    have hw0 : wEntry q = 2 + wG wPost q.posts := rfl
    have ih := ih () trivial
    rw [htk, wG_app, wG, wG, Nat.add_zero] at ih
    have hx0 := mkG_get (f := mkEntry) (w := wEntry) (k := k) hq
    obtain ⟨K, hK⟩ : ∃ K, K = k + wG wEntry (l.take i) := ⟨_, rfl⟩
    rw [← Nat.add_assoc, ← hK] at ih
    rw [← hK] at hx0 ⊢
    obtain ⟨M, hM⟩ : ∃ M, M = mkG mkEntry wEntry k l := ⟨_, rfl⟩
    rw [← hM] at hx0 hml ih ⊢
    have hgx : M.getD i default = mkEntry K q := by rw [List.getD_eq_getElem?_getD, hx0]; rfl
    have hiM : i < M.length := by omega
    have w1 : IntKind.i64.wrap ((K : Int) + 1) = ((K + 1 : Nat) : Int) := by rw [wrap_in (by omega) (by omega)]; omega
    have w2 : IntKind.i64.wrap (((K + 1 : Nat) : Int) + 1) = ((K + 2 : Nat) : Int) := by rw [wrap_in (by omega) (by omega)]; omega
    have b0 : K ≤ 1099511627776 := by omega
    have b1 : K + 1 ≤ 1099511627776 := by omega
    have hwq : wEntry q = 2 + wG wPost q.posts := rfl
    have hr := heldPostS_R q.posts (K + 2) (by omega) (hs q hqm).1 (hs q hqm).2
    rw [hwq, ← Nat.add_assoc] at ih
    have b9 : ¬ ((K + 2 + wG wPost q.posts : Nat) : Int) < 0 := by omega
    rw [mkEntry] at hx0 hgx
    simp only [go_sem, ↓reduceIte, Nat.reduceAdd, Nat.reduceSub, Nat.reduceEqDiff, Nat.reduceLT, Nat.reduceLeDiff, Nat.reduceMul, Int.reduceNeg, Int.reduceToNat, Int.reduceEq, Int.reduceLT, Int.reduceLE, reduceCtorEq, hi, hw, hgx, hiM, hx0, hr, b9, w1, w2, b0, b1]
    exact ih
  · rintro _ -
    have hml2 : ¬ (l.length < (mkG mkEntry wEntry k l).length) := by omega
    rw [List.take_length]
    simp only [go_sem, ↓reduceIte, Nat.reduceAdd, Nat.reduceSub, Nat.reduceEqDiff, Nat.reduceLT, Nat.reduceLeDiff, Nat.reduceMul, Int.reduceNeg, Int.reduceToNat, Int.reduceEq, Int.reduceLT, Int.reduceLE, reduceCtorEq, hml2]
end Go.Proofs.YtmanllfmgghadaaGreatDoor.PVE
