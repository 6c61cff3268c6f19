/- Sizes, copies and comparisons of fields and questions. -/
import Derived.Test.YtmanllfmgghadaaDoorT4
set_option linter.unusedVariables false
set_option linter.unusedSimpArgs false
set_option maxRecDepth 100000
namespace Go.Proofs.YtmanllfmgghadaaDoor.PVE
open PV Query
mutual
def tot : Query → Nat | .mk _ f t _ _ p => f.length + t.length + totL p
def totL : List Query → Nat
  | [] => 0
  | q :: l => tot q + 1 + totL l
end
theorem tot_eq : ∀ q : Query, tot q = q.field.length + q.text.length + totL q.parts
  | .mk _ f t _ _ p => by rw [tot]; rfl
theorem totL_app : ∀ (l m : List Query), totL (l ++ m) = totL l + totL m
  | [], m => by simp [totL]
  | q :: l, m => by rw [List.cons_append, totL, totL, totL_app l m]; omega
theorem totL_len : ∀ l : List Query, l.length ≤ totL l
  | [] => Nat.le_refl _
  | q :: l => by have := totL_len l; rw [totL, List.length_cons]; omega
theorem totL_mem : ∀ {l : List Query} {q : Query}, q ∈ l → tot q ≤ totL l
  | x :: l, q, h => by
    rw [totL]
    rcases List.mem_cons.1 h with rfl | h
    · omega
    · have := totL_mem h; omega
inductive Query.Lm : Query → Prop
  | mk (q : Query) (hf : q.field.length ≤ 9223372036854775807) (ht : q.text.length ≤ 9223372036854775807) (hp : q.parts.length ≤ 9223372036854775807) (h : ∀ p ∈ q.parts, p.Lm) : q.Lm
theorem sm_of_tot (q : Query) (h : tot q ≤ 1099511627776) : q.Sm := by
  refine Query.ind (P := fun q => tot q ≤ 1099511627776 → q.Sm) (fun q ih h => ?_) q h
  rw [tot_eq] at h
  have := totL_len q.parts
  exact ⟨q, by omega, by omega, by omega, fun p hp => ih p hp (by have := totL_mem hp; omega)⟩
def szQ (q : Query) (left : Int) : Int := if (tot q : Int) ≤ left then left - tot q else -1
def szQS (l : List Query) (left : Int) : Int := if (totL l : Int) ≤ left then left - totL l else -1
theorem szQueryS_R (l : List Query) (hl : l.length ≤ 9223372036854775807) (h : ∀ q ∈ l, ∀ left : Int, 0 ≤ left → left ≤ 1099511627776 → R S0 4 [.agg [.int .i64 q.kind, .str q.field, .str q.text, .int .i64 q.low, .int .i64 q.high, .sl (q.parts.map pv)], .int .i64 left] = some ⟨[none, none], .int .i64 (szQ q left)⟩)
    (left : Int) (h0 : 0 ≤ left) (h1 : left ≤ 1099511627776) : R S0 9 [.sl (l.map pv), .int .i64 left] = some ⟨[none, none], .int .i64 (szQS l left)⟩ := by
  have hw : IntKind.i64.wrap (left - l.length) = left - l.length := wrap_in (by omega) (by omega)
  have hlt := totL_len l
  by_cases hc : left - (l.length : Int) < 0
  · refine go9 rfl ?_; simp only [go_sem, ↓reduceIte, Nat.reduceAdd, Nat.reduceSub, Nat.reduceEqDiff, Nat.reduceLT, Nat.reduceLeDiff, Nat.reduceMul, Int.reduceNeg, Int.reduceToNat, Int.reduceEq, Int.reduceLT, Int.reduceLE, reduceCtorEq, Tryd.f9, hw, hc]
    rw [szQS, if_neg (by omega)]
  · refine go9 rfl ?_; simp only [go_sem, ↓reduceIte, Nat.reduceAdd, Nat.reduceSub, Nat.reduceEqDiff, Nat.reduceLT, Nat.reduceLeDiff, Nat.reduceMul, Int.reduceNeg, Int.reduceToNat, Int.reduceEq, Int.reduceLT, Int.reduceLE, reduceCtorEq, Tryd.f9, hw, hc]
    refine ends_for l.length (by omega) (fun i (x : Int) => mkSt [(0, .sl (l.map pv)), (1, .int .i64 x), (5, .int .i64 i)] []) (fun i x => 0 ≤ x ∧ x + totL (l.take i) + (l.length - i : Nat) = left) 0 (left - l.length) (by omega) ⟨by omega, by simp [totL]⟩ ?_ ?_
    · rintro i x hi ⟨hx0, hx1⟩ hw ih
      obtain ⟨q, hq, hg, hd⟩ := drop_get hi default
      have hm := List.mem_of_getElem? hq
      have hr := h q hm x hx0 (by omega)
      have hll : l = l.take i ++ q :: l.drop (i + 1) := by rw [← hd, List.take_append_drop]
      have hsum : totL l = totL (l.take i) + (tot q + 1 + totL (l.drop (i + 1))) := by
        conv => lhs; rw [hll]
        rw [totL_app, totL]
      have hdl := totL_len (l.drop (i + 1))
      rw [List.length_drop] at hdl
      simp only [go_sem, ↓reduceIte, Nat.reduceAdd, Nat.reduceSub, Nat.reduceEqDiff, Nat.reduceLT, Nat.reduceLeDiff, Nat.reduceMul, Int.reduceNeg, Int.reduceToNat, Int.reduceEq, Int.reduceLT, Int.reduceLE, reduceCtorEq, hi, hw, hg, hr]
      have htk : l.take (i + 1) = l.take i ++ [q] := by rw [List.take_add_one, hq]; rfl
      refine ⟨fun hneg => ?_, fun hneg => ih _ ⟨by omega, ?_⟩⟩
      · unfold szQ at hneg
        rw [szQS, if_neg]
        split at hneg <;> omega
      · rw [htk, totL_app, totL, totL]
        unfold szQ at hneg ⊢
        split at hneg <;> rename_i hle
        · rw [if_pos hle]; omega
        · omega
    · rintro x ⟨hx0, hx1⟩
      rw [List.take_length] at hx1
      simp only [go_sem, ↓reduceIte, Nat.reduceAdd, Nat.reduceSub, Nat.reduceEqDiff, Nat.reduceLT, Nat.reduceLeDiff, Nat.reduceMul, Int.reduceNeg, Int.reduceToNat, Int.reduceEq, Int.reduceLT, Int.reduceLE, reduceCtorEq]
      rw [szQS, if_pos (by omega)]
      omega
theorem szQuery_R (q : Query) : q.Lm → ∀ left : Int, 0 ≤ left → left ≤ 1099511627776 → R S0 4 [.agg [.int .i64 q.kind, .str q.field, .str q.text, .int .i64 q.low, .int .i64 q.high, .sl (q.parts.map pv)], .int .i64 left] = some ⟨[none, none], .int .i64 (szQ q left)⟩ := by
  refine Query.ind (P := fun q => q.Lm → ∀ left : Int, 0 ≤ left → left ≤ 1099511627776 → R S0 4 [.agg [.int .i64 q.kind, .str q.field, .str q.text, .int .i64 q.low, .int .i64 q.high, .sl (q.parts.map pv)], .int .i64 left] = some ⟨[none, none], .int .i64 (szQ q left)⟩) (fun q ih hq left h0 h1 => ?_) q
  obtain ⟨_, hf, ht, hp, hs⟩ := hq
  have hS := fun left h0 h1 => szQueryS_R q.parts hp (fun p hp left h0 h1 => ih p hp (hs p hp) left h0 h1) left h0 h1
  have ht0 := tot_eq q
  have hw : IntKind.i64.wrap (left - q.field.length) = left - q.field.length := wrap_in (by omega) (by omega)
  by_cases hc : left - (q.field.length : Int) < 0
  · refine go4 rfl ?_; simp only [go_sem, ↓reduceIte, Nat.reduceAdd, Nat.reduceSub, Nat.reduceEqDiff, Nat.reduceLT, Nat.reduceLeDiff, Nat.reduceMul, Int.reduceNeg, Int.reduceToNat, Int.reduceEq, Int.reduceLT, Int.reduceLE, reduceCtorEq, Tryd.f4, hw, hc]
    rw [szQ, if_neg (by omega)]
  have hw2 : IntKind.i64.wrap (left - q.field.length - q.text.length) = left - q.field.length - q.text.length := wrap_in (by omega) (by omega)
  by_cases hc2 : left - (q.field.length : Int) - q.text.length < 0
  · refine go4 rfl ?_; simp only [go_sem, ↓reduceIte, Nat.reduceAdd, Nat.reduceSub, Nat.reduceEqDiff, Nat.reduceLT, Nat.reduceLeDiff, Nat.reduceMul, Int.reduceNeg, Int.reduceToNat, Int.reduceEq, Int.reduceLT, Int.reduceLE, reduceCtorEq, Tryd.f4, hw, hc, hw2, hc2]
    rw [szQ, if_neg (by omega)]
  have hS := hS (left - q.field.length - q.text.length) (by omega) (by omega)
  refine go4 rfl ?_; simp only [go_sem, ↓reduceIte, Nat.reduceAdd, Nat.reduceSub, Nat.reduceEqDiff, Nat.reduceLT, Nat.reduceLeDiff, Nat.reduceMul, Int.reduceNeg, Int.reduceToNat, Int.reduceEq, Int.reduceLT, Int.reduceLE, reduceCtorEq, Tryd.f4, hw, hc, hw2, hc2, hS]
  unfold szQS szQ
  rw [ht0]
  refine ⟨fun hneg => ?_, fun hneg => ?_⟩
  · rw [if_neg]
    split at hneg <;> omega
  · split at hneg <;> rename_i hle
    · rw [if_pos hle, if_pos (by omega)]; omega
    · omega
def zeroQ : Query := .mk 0 [] [] 0 0 []
theorem toQueryS_R (l : List Query) (hl : l.length ≤ 1099511627776) (h : ∀ q ∈ l, R S0 6 [.agg [.int .i64 q.kind, .str q.field, .str q.text, .int .i64 q.low, .int .i64 q.high, .sl (q.parts.map pv)]] = some ⟨[none], .agg [.int .i64 q.kind, .str q.field, .str q.text, .int .i64 q.low, .int .i64 q.high, .slo 6 (q.parts.map pvo)]⟩) :
    R S0 12 [.sl (l.map pv)] = some ⟨[none], .slo 6 (l.map pvo)⟩ := by
  have h1 : l.length * 80 ≤ 140737488355328 := by omega
  have e0 : PV.agg [.int .i64 0, .str [], .str [], .int .i64 0, .int .i64 0, .slo 6 []] = zeroQ.pvo := by rw [pvo_eq]; rfl
  have e1 : List.replicate l.length (PV.agg [.int .i64 0, .str [], .str [], .int .i64 0, .int .i64 0, .slo 6 []]) = (List.replicate l.length zeroQ).map pvo := by rw [e0, List.map_replicate]
  refine go12 rfl ?_; simp only [go_sem, ↓reduceIte, Nat.reduceAdd, Nat.reduceSub, Nat.reduceEqDiff, Nat.reduceLT, Nat.reduceLeDiff, Nat.reduceMul, Int.reduceNeg, Int.reduceToNat, Int.reduceEq, Int.reduceLT, Int.reduceLE, reduceCtorEq, Tryd.f12, h1, e1]
  refine ends_for l.length (by omega) (fun i (x : List Query) => mkSt [(0, .sl (l.map pv)), (3, .own 0), (4, .int .i64 i)] [.slo 6 (x.map pvo)]) (fun i x => x = l.take i ++ List.replicate (l.length - i) zeroQ) 0 (List.replicate l.length zeroQ) (by omega) (by simp) ?_ ?_
  · rintro i x hi hI hw ih
    obtain ⟨q, hq, hg, hd⟩ := drop_get hi default
    have hr := h q (List.mem_of_getElem? hq)
    have hxl : x.length = l.length := by rw [hI]; simp; omega
    have hix : i < x.length := by omega
    have hxi : x[i]? = some (x[i]'hix) := List.getElem?_eq_getElem hix
    simp only [go_sem, ↓reduceIte, Nat.reduceAdd, Nat.reduceSub, Nat.reduceEqDiff, Nat.reduceLT, Nat.reduceLeDiff, Nat.reduceMul, Int.reduceNeg, Int.reduceToNat, Int.reduceEq, Int.reduceLT, Int.reduceLE, reduceCtorEq, hi, hw, hg, hr, hix, hxi]
    refine ih _ ?_
    have e2 : l.length - i = (l.length - (i + 1)) + 1 := by omega
    rw [hI, List.set_append_right _ _ (by simp; omega), List.take_add_one, hq, e2, List.replicate_succ]
    simp [Nat.min_eq_left (Nat.le_of_lt hi)]
  · rintro x hI
    simp only [go_sem, ↓reduceIte, Nat.reduceAdd, Nat.reduceSub, Nat.reduceEqDiff, Nat.reduceLT, Nat.reduceLeDiff, Nat.reduceMul, Int.reduceNeg, Int.reduceToNat, Int.reduceEq, Int.reduceLT, Int.reduceLE, reduceCtorEq]
    rw [hI]
    simp
theorem toQuery_R (q : Query) : q.Sm → R S0 6 [.agg [.int .i64 q.kind, .str q.field, .str q.text, .int .i64 q.low, .int .i64 q.high, .sl (q.parts.map pv)]] = some ⟨[none], .agg [.int .i64 q.kind, .str q.field, .str q.text, .int .i64 q.low, .int .i64 q.high, .slo 6 (q.parts.map pvo)]⟩ := by
  refine Query.ind (P := fun q => q.Sm → R S0 6 [.agg [.int .i64 q.kind, .str q.field, .str q.text, .int .i64 q.low, .int .i64 q.high, .sl (q.parts.map pv)]] = some ⟨[none], .agg [.int .i64 q.kind, .str q.field, .str q.text, .int .i64 q.low, .int .i64 q.high, .slo 6 (q.parts.map pvo)]⟩) (fun q ih hq => ?_) q
  obtain ⟨_, hf, ht, hp, hs⟩ := hq
  have hS := toQueryS_R q.parts hp (fun p hp => ih p hp (hs p hp))
  refine go6 rfl ?_; simp only [go_sem, ↓reduceIte, Nat.reduceAdd, Nat.reduceSub, Nat.reduceEqDiff, Nat.reduceLT, Nat.reduceLeDiff, Nat.reduceMul, Int.reduceNeg, Int.reduceToNat, Int.reduceEq, Int.reduceLT, Int.reduceLE, reduceCtorEq, Tryd.f6, hS]
theorem eqQueryS_R (l : List Query) (hl : l.length ≤ 1099511627776) (h : ∀ q ∈ l, R S0 8 [.agg [.int .i64 q.kind, .str q.field, .str q.text, .int .i64 q.low, .int .i64 q.high, .sl (q.parts.map pv)], .agg [.int .i64 q.kind, .str q.field, .str q.text, .int .i64 q.low, .int .i64 q.high, .sl (q.parts.map pv)]] = some ⟨[none, none], .bool true⟩) :
    R S0 15 [.sl (l.map pv), .sl (l.map pv)] = some ⟨[none, none], .bool true⟩ := by
  refine go15 rfl ?_; simp only [go_sem, ↓reduceIte, Nat.reduceAdd, Nat.reduceSub, Nat.reduceEqDiff, Nat.reduceLT, Nat.reduceLeDiff, Nat.reduceMul, Int.reduceNeg, Int.reduceToNat, Int.reduceEq, Int.reduceLT, Int.reduceLE, reduceCtorEq, Tryd.f15]
  refine ends_for l.length (by omega) (fun i _ => mkSt [(0, .sl (l.map pv)), (1, .sl (l.map pv)), (5, .int .i64 i)] []) (fun i _ => True) 0 () (by omega) trivial ?_ ?_
  · rintro i _ hi - hw ih
    obtain ⟨q, hq, hg, hd⟩ := drop_get hi default
    have hr := h q (List.mem_of_getElem? hq)
    simp only [go_sem, ↓reduceIte, Nat.reduceAdd, Nat.reduceSub, Nat.reduceEqDiff, Nat.reduceLT, Nat.reduceLeDiff, Nat.reduceMul, Int.reduceNeg, Int.reduceToNat, Int.reduceEq, Int.reduceLT, Int.reduceLE, reduceCtorEq, hi, hw, hg, hr]
    exact ih () trivial
  · rintro _ -
    simp only [go_sem, ↓reduceIte, Nat.reduceAdd, Nat.reduceSub, Nat.reduceEqDiff, Nat.reduceLT, Nat.reduceLeDiff, Nat.reduceMul, Int.reduceNeg, Int.reduceToNat, Int.reduceEq, Int.reduceLT, Int.reduceLE, reduceCtorEq]
theorem eqQuery_R (q : Query) : q.Sm → R S0 8 [.agg [.int .i64 q.kind, .str q.field, .str q.text, .int .i64 q.low, .int .i64 q.high, .sl (q.parts.map pv)], .agg [.int .i64 q.kind, .str q.field, .str q.text, .int .i64 q.low, .int .i64 q.high, .sl (q.parts.map pv)]] = some ⟨[none, none], .bool true⟩ := by
  refine Query.ind (P := fun q => q.Sm → R S0 8 [.agg [.int .i64 q.kind, .str q.field, .str q.text, .int .i64 q.low, .int .i64 q.high, .sl (q.parts.map pv)], .agg [.int .i64 q.kind, .str q.field, .str q.text, .int .i64 q.low, .int .i64 q.high, .sl (q.parts.map pv)]] = some ⟨[none, none], .bool true⟩) (fun q ih hq => ?_) q
  obtain ⟨_, hf, ht, hp, hs⟩ := hq
  have hS := eqQueryS_R q.parts hp (fun p hp => ih p hp (hs p hp))
  refine go8 rfl ?_; simp only [go_sem, ↓reduceIte, Nat.reduceAdd, Nat.reduceSub, Nat.reduceEqDiff, Nat.reduceLT, Nat.reduceLeDiff, Nat.reduceMul, Int.reduceNeg, Int.reduceToNat, Int.reduceEq, Int.reduceLT, Int.reduceLE, reduceCtorEq, Tryd.f8, hS]
end Go.Proofs.YtmanllfmgghadaaDoor.PVE
