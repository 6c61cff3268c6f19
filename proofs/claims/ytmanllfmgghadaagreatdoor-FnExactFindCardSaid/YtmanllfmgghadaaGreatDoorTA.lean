/- Sizes, copies and comparisons of fields and questions. -/
import Derived.Test.YtmanllfmgghadaaGreatDoorT4
import Derived.Sort.Walk0
set_option linter.unusedVariables false
set_option linter.unusedSimpArgs false
set_option maxRecDepth 100000
namespace Go.Proofs.YtmanllfmgghadaaGreatDoor.PVE
open PV Query
mutual
def tot : Query → Nat | .mk _ f t _ _ p => f.length + t.length + totL p
def totL : List Query → Nat
  | [] => 0
  | q :: l => tot q + 1 + totL l
end
theorem tot_eq : ∀ q : Query, tot q = q.field.length + q.text.length + totL q.parts
  | .mk _ f t _ _ p => by rw [tot]; rfl
theorem totL_app : ∀ (l m : List Query), totL (l ++ m) = totL l + totL m
  | [], m => by simp [totL]
  | q :: l, m => by rw [List.cons_append, totL, totL, totL_app l m]; omega
theorem totL_len : ∀ l : List Query, l.length ≤ totL l
  | [] => Nat.le_refl _
  | q :: l => by have := totL_len l; rw [totL, List.length_cons]; omega
theorem totL_mem : ∀ {l : List Query} {q : Query}, q ∈ l → tot q ≤ totL l
  | x :: l, q, h => by
    rw [totL]
    rcases List.mem_cons.1 h with rfl | h
    · omega
    · have := totL_mem h; omega
inductive Query.Lm : Query → Prop
  | mk (q : Query) (hf : q.field.length ≤ 9223372036854775807) (ht : q.text.length ≤ 9223372036854775807) (hp : q.parts.length ≤ 9223372036854775807) (h : ∀ p ∈ q.parts, p.Lm) : q.Lm
theorem sm_of_tot (q : Query) (h : tot q ≤ 1099511627776) : q.Sm := by
  refine Query.ind (P := fun q => tot q ≤ 1099511627776 → q.Sm) (fun q ih h => ?_) q h
  rw [tot_eq] at h
  have := totL_len q.parts
  exact ⟨q, by omega, by omega, by omega, fun p hp => ih p hp (by have := totL_mem hp; omega)⟩
def szQ (q : Query) (left : Int) : Int := if (tot q : Int) ≤ left then left - tot q else -1
def szQS (l : List Query) (left : Int) : Int := if (totL l : Int) ≤ left then left - totL l else -1
theorem szQueryS_R (l : List Query) (hl : l.length ≤ 9223372036854775807) (h : ∀ q ∈ l, ∀ left : Int, 0 ≤ left → left ≤ 1099511627776 → R S0 25 [.agg [.int .i64 q.kind, .str q.field, .str q.text, .int .i64 q.low, .int .i64 q.high, .sl (q.parts.map pv)], .int .i64 left] = some ⟨[none, none], .int .i64 (szQ q left)⟩)
    (left : Int) (h0 : 0 ≤ left) (h1 : left ≤ 1099511627776) : R S0 74 [.sl (l.map pv), .int .i64 left] = some ⟨[none, none], .int .i64 (szQS l left)⟩ := by
  have hw : IntKind.i64.wrap (left - l.length) = left - l.length := wrap_in (by omega) (by omega)
  have hlt := totL_len l
  by_cases hc : left - (l.length : Int) < 0
  · refine go74 rfl ?_; simp only [go_sem, ↓reduceIte, Nat.reduceAdd, Nat.reduceSub, Nat.reduceEqDiff, Nat.reduceLT, Nat.reduceLeDiff, Nat.reduceMul, Int.reduceNeg, Int.reduceToNat, Int.reduceEq, Int.reduceLT, Int.reduceLE, reduceCtorEq, Tryz.f74, hw, hc]
    rw [szQS, if_neg (by omega)]
  · refine go74 rfl ?_; simp only [go_sem, ↓reduceIte, Nat.reduceAdd, Nat.reduceSub, Nat.reduceEqDiff, Nat.reduceLT, Nat.reduceLeDiff, Nat.reduceMul, Int.reduceNeg, Int.reduceToNat, Int.reduceEq, Int.reduceLT, Int.reduceLE, reduceCtorEq, Tryz.f74, hw, hc]
    refine ends_for l.length (by omega) (fun i (x : Int) => mkSt [(0, .sl (l.map pv)), (1, .int .i64 x), (5, .int .i64 i)] []) (fun i x => 0 ≤ x ∧ x + totL (l.take i) + (l.length - i : Nat) = left) 0 (left - l.length) (by omega) ⟨by omega, by simp [totL]⟩ ?_ ?_
    · rintro i x hi ⟨hx0, hx1⟩ hw ih
      obtain ⟨q, hq, hg, hd⟩ := drop_get hi default
      have hm := List.mem_of_getElem? hq
      have hr := h q hm x hx0 (by omega)
      have hll : l = l.take i ++ q :: l.drop (i + 1) := by rw [← hd, List.take_append_drop]
      have hsum : totL l = totL (l.take i) + (tot q + 1 + totL (l.drop (i + 1))) := by
        conv => lhs; rw [hll]
        rw [totL_app, totL]
      have hdl := totL_len (l.drop (i + 1))
      rw [List.length_drop] at hdl
      simp only [go_sem, ↓reduceIte, Nat.reduceAdd, Nat.reduceSub, Nat.reduceEqDiff, Nat.reduceLT, Nat.reduceLeDiff, Nat.reduceMul, Int.reduceNeg, Int.reduceToNat, Int.reduceEq, Int.reduceLT, Int.reduceLE, reduceCtorEq, hi, hw, hg, hr]
      have htk : l.take (i + 1) = l.take i ++ [q] := by rw [List.take_add_one, hq]; rfl
      refine ⟨fun hneg => ?_, fun hneg => ih _ ⟨by omega, ?_⟩⟩
      · unfold szQ at hneg
        rw [szQS, if_neg]
        split at hneg <;> omega
      · rw [htk, totL_app, totL, totL]
        unfold szQ at hneg ⊢
        split at hneg <;> rename_i hle
        · rw [if_pos hle]; omega
        · omega
    · rintro x ⟨hx0, hx1⟩
      rw [List.take_length] at hx1
      simp only [go_sem, ↓reduceIte, Nat.reduceAdd, Nat.reduceSub, Nat.reduceEqDiff, Nat.reduceLT, Nat.reduceLeDiff, Nat.reduceMul, Int.reduceNeg, Int.reduceToNat, Int.reduceEq, Int.reduceLT, Int.reduceLE, reduceCtorEq]
      rw [szQS, if_pos (by omega)]
      omega
theorem szQuery_R (q : Query) : q.Lm → ∀ left : Int, 0 ≤ left → left ≤ 1099511627776 → R S0 25 [.agg [.int .i64 q.kind, .str q.field, .str q.text, .int .i64 q.low, .int .i64 q.high, .sl (q.parts.map pv)], .int .i64 left] = some ⟨[none, none], .int .i64 (szQ q left)⟩ := by
  refine Query.ind (P := fun q => q.Lm → ∀ left : Int, 0 ≤ left → left ≤ 1099511627776 → R S0 25 [.agg [.int .i64 q.kind, .str q.field, .str q.text, .int .i64 q.low, .int .i64 q.high, .sl (q.parts.map pv)], .int .i64 left] = some ⟨[none, none], .int .i64 (szQ q left)⟩) (fun q ih hq left h0 h1 => ?_) q
  obtain ⟨_, hf, ht, hp, hs⟩ := hq
  have hS := fun left h0 h1 => szQueryS_R q.parts hp (fun p hp left h0 h1 => ih p hp (hs p hp) left h0 h1) left h0 h1
  have ht0 := tot_eq q
  have hw : IntKind.i64.wrap (left - q.field.length) = left - q.field.length := wrap_in (by omega) (by omega)
  by_cases hc : left - (q.field.length : Int) < 0
  · refine go25 rfl ?_; simp only [go_sem, ↓reduceIte, Nat.reduceAdd, Nat.reduceSub, Nat.reduceEqDiff, Nat.reduceLT, Nat.reduceLeDiff, Nat.reduceMul, Int.reduceNeg, Int.reduceToNat, Int.reduceEq, Int.reduceLT, Int.reduceLE, reduceCtorEq, Tryz.f25, hw, hc]
    rw [szQ, if_neg (by omega)]
  have hw2 : IntKind.i64.wrap (left - q.field.length - q.text.length) = left - q.field.length - q.text.length := wrap_in (by omega) (by omega)
  by_cases hc2 : left - (q.field.length : Int) - q.text.length < 0
  · refine go25 rfl ?_; simp only [go_sem, ↓reduceIte, Nat.reduceAdd, Nat.reduceSub, Nat.reduceEqDiff, Nat.reduceLT, Nat.reduceLeDiff, Nat.reduceMul, Int.reduceNeg, Int.reduceToNat, Int.reduceEq, Int.reduceLT, Int.reduceLE, reduceCtorEq, Tryz.f25, hw, hc, hw2, hc2]
    rw [szQ, if_neg (by omega)]
  have hS := hS (left - q.field.length - q.text.length) (by omega) (by omega)
  refine go25 rfl ?_; simp only [go_sem, ↓reduceIte, Nat.reduceAdd, Nat.reduceSub, Nat.reduceEqDiff, Nat.reduceLT, Nat.reduceLeDiff, Nat.reduceMul, Int.reduceNeg, Int.reduceToNat, Int.reduceEq, Int.reduceLT, Int.reduceLE, reduceCtorEq, Tryz.f25, hw, hc, hw2, hc2, hS]
  unfold szQS szQ
  rw [ht0]
  refine ⟨fun hneg => ?_, fun hneg => ?_⟩
  · rw [if_neg]
    split at hneg <;> omega
  · split at hneg <;> rename_i hle
    · rw [if_pos hle, if_pos (by omega)]; omega
    · omega
def zeroQ : Query := .mk 0 [] [] 0 0 []
theorem toQueryS_R (l : List Query) (hl : l.length ≤ 1099511627776) (h : ∀ q ∈ l, R S0 27 [.agg [.int .i64 q.kind, .str q.field, .str q.text, .int .i64 q.low, .int .i64 q.high, .sl (q.parts.map pv)]] = some ⟨[none], .agg [.int .i64 q.kind, .str q.field, .str q.text, .int .i64 q.low, .int .i64 q.high, .slo 6 (q.parts.map pvo)]⟩) :
    R S0 77 [.sl (l.map pv)] = some ⟨[none], .slo 6 (l.map pvo)⟩ := by
  have h1 : l.length * 80 ≤ 140737488355328 := by omega
  have e0 : PV.agg [.int .i64 0, .str [], .str [], .int .i64 0, .int .i64 0, .slo 6 []] = zeroQ.pvo := by rw [pvo_eq]; rfl
  have e1 : List.replicate l.length (PV.agg [.int .i64 0, .str [], .str [], .int .i64 0, .int .i64 0, .slo 6 []]) = (List.replicate l.length zeroQ).map pvo := by rw [e0, List.map_replicate]
  refine go77 rfl ?_; simp only [go_sem, ↓reduceIte, Nat.reduceAdd, Nat.reduceSub, Nat.reduceEqDiff, Nat.reduceLT, Nat.reduceLeDiff, Nat.reduceMul, Int.reduceNeg, Int.reduceToNat, Int.reduceEq, Int.reduceLT, Int.reduceLE, reduceCtorEq, Tryz.f77, h1, e1]
  refine ends_for l.length (by omega) (fun i (x : List Query) => mkSt [(0, .sl (l.map pv)), (3, .own 0), (4, .int .i64 i)] [.slo 6 (x.map pvo)]) (fun i x => x = l.take i ++ List.replicate (l.length - i) zeroQ) 0 (List.replicate l.length zeroQ) (by omega) (by simp) ?_ ?_
  · rintro i x hi hI hw ih
    obtain ⟨q, hq, hg, hd⟩ := drop_get hi default
    have hr := h q (List.mem_of_getElem? hq)
    have hxl : x.length = l.length := by rw [hI]; simp; omega
    have hix : i < x.length := by omega
    have hxi : x[i]? = some (x[i]'hix) := List.getElem?_eq_getElem hix
    simp only [go_sem, ↓reduceIte, Nat.reduceAdd, Nat.reduceSub, Nat.reduceEqDiff, Nat.reduceLT, Nat.reduceLeDiff, Nat.reduceMul, Int.reduceNeg, Int.reduceToNat, Int.reduceEq, Int.reduceLT, Int.reduceLE, reduceCtorEq, hi, hw, hg, hr, hix, hxi]
    refine ih _ ?_
    have e2 : l.length - i = (l.length - (i + 1)) + 1 := by omega
    rw [hI, List.set_append_right _ _ (by simp; omega), List.take_add_one, hq, e2, List.replicate_succ]
    simp [Nat.min_eq_left (Nat.le_of_lt hi)]
  · rintro x hI
    simp only [go_sem, ↓reduceIte, Nat.reduceAdd, Nat.reduceSub, Nat.reduceEqDiff, Nat.reduceLT, Nat.reduceLeDiff, Nat.reduceMul, Int.reduceNeg, Int.reduceToNat, Int.reduceEq, Int.reduceLT, Int.reduceLE, reduceCtorEq]
    rw [hI]
    simp
theorem toQuery_R (q : Query) : q.Sm → R S0 27 [.agg [.int .i64 q.kind, .str q.field, .str q.text, .int .i64 q.low, .int .i64 q.high, .sl (q.parts.map pv)]] = some ⟨[none], .agg [.int .i64 q.kind, .str q.field, .str q.text, .int .i64 q.low, .int .i64 q.high, .slo 6 (q.parts.map pvo)]⟩ := by
  refine Query.ind (P := fun q => q.Sm → R S0 27 [.agg [.int .i64 q.kind, .str q.field, .str q.text, .int .i64 q.low, .int .i64 q.high, .sl (q.parts.map pv)]] = some ⟨[none], .agg [.int .i64 q.kind, .str q.field, .str q.text, .int .i64 q.low, .int .i64 q.high, .slo 6 (q.parts.map pvo)]⟩) (fun q ih hq => ?_) q
  obtain ⟨_, hf, ht, hp, hs⟩ := hq
  have hS := toQueryS_R q.parts hp (fun p hp => ih p hp (hs p hp))
  refine go27 rfl ?_; simp only [go_sem, ↓reduceIte, Nat.reduceAdd, Nat.reduceSub, Nat.reduceEqDiff, Nat.reduceLT, Nat.reduceLeDiff, Nat.reduceMul, Int.reduceNeg, Int.reduceToNat, Int.reduceEq, Int.reduceLT, Int.reduceLE, reduceCtorEq, Tryz.f27, hS]
theorem eqQueryS_R (l : List Query) (hl : l.length ≤ 1099511627776) (h : ∀ q ∈ l, R S0 29 [.agg [.int .i64 q.kind, .str q.field, .str q.text, .int .i64 q.low, .int .i64 q.high, .sl (q.parts.map pv)], .agg [.int .i64 q.kind, .str q.field, .str q.text, .int .i64 q.low, .int .i64 q.high, .sl (q.parts.map pv)]] = some ⟨[none, none], .bool true⟩) :
    R S0 80 [.sl (l.map pv), .sl (l.map pv)] = some ⟨[none, none], .bool true⟩ := by
  refine go80 rfl ?_; simp only [go_sem, ↓reduceIte, Nat.reduceAdd, Nat.reduceSub, Nat.reduceEqDiff, Nat.reduceLT, Nat.reduceLeDiff, Nat.reduceMul, Int.reduceNeg, Int.reduceToNat, Int.reduceEq, Int.reduceLT, Int.reduceLE, reduceCtorEq, Tryz.f80]
  refine ends_for l.length (by omega) (fun i _ => mkSt [(0, .sl (l.map pv)), (1, .sl (l.map pv)), (5, .int .i64 i)] []) (fun i _ => True) 0 () (by omega) trivial ?_ ?_
  · rintro i _ hi - hw ih
    obtain ⟨q, hq, hg, hd⟩ := drop_get hi default
    have hr := h q (List.mem_of_getElem? hq)
    simp only [go_sem, ↓reduceIte, Nat.reduceAdd, Nat.reduceSub, Nat.reduceEqDiff, Nat.reduceLT, Nat.reduceLeDiff, Nat.reduceMul, Int.reduceNeg, Int.reduceToNat, Int.reduceEq, Int.reduceLT, Int.reduceLE, reduceCtorEq, hi, hw, hg, hr]
    exact ih () trivial
  · rintro _ -
    simp only [go_sem, ↓reduceIte, Nat.reduceAdd, Nat.reduceSub, Nat.reduceEqDiff, Nat.reduceLT, Nat.reduceLeDiff, Nat.reduceMul, Int.reduceNeg, Int.reduceToNat, Int.reduceEq, Int.reduceLT, Int.reduceLE, reduceCtorEq]
theorem eqQuery_R (q : Query) : q.Sm → R S0 29 [.agg [.int .i64 q.kind, .str q.field, .str q.text, .int .i64 q.low, .int .i64 q.high, .sl (q.parts.map pv)], .agg [.int .i64 q.kind, .str q.field, .str q.text, .int .i64 q.low, .int .i64 q.high, .sl (q.parts.map pv)]] = some ⟨[none, none], .bool true⟩ := by
  refine Query.ind (P := fun q => q.Sm → R S0 29 [.agg [.int .i64 q.kind, .str q.field, .str q.text, .int .i64 q.low, .int .i64 q.high, .sl (q.parts.map pv)], .agg [.int .i64 q.kind, .str q.field, .str q.text, .int .i64 q.low, .int .i64 q.high, .sl (q.parts.map pv)]] = some ⟨[none, none], .bool true⟩) (fun q ih hq => ?_) q
  obtain ⟨_, hf, ht, hp, hs⟩ := hq
  have hS := eqQueryS_R q.parts hp (fun p hp => ih p hp (hs p hp))
  refine go29 rfl ?_; simp only [go_sem, ↓reduceIte, Nat.reduceAdd, Nat.reduceSub, Nat.reduceEqDiff, Nat.reduceLT, Nat.reduceLeDiff, Nat.reduceMul, Int.reduceNeg, Int.reduceToNat, Int.reduceEq, Int.reduceLT, Int.reduceLE, reduceCtorEq, Tryz.f29, hS]
def totF : List Field → Nat
  | [] => 0
  | f :: l => f.name.length + 1 + totF l
theorem totF_app : ∀ (l m : List Field), totF (l ++ m) = totF l + totF m
  | [], m => by simp [totF]
  | q :: l, m => by rw [List.cons_append, totF, totF, totF_app l m]; omega
theorem totF_len : ∀ l : List Field, l.length ≤ totF l
  | [] => Nat.le_refl _
  | q :: l => by have := totF_len l; rw [totF, List.length_cons]; omega
theorem totF_mem : ∀ {l : List Field} {q : Field}, q ∈ l → q.name.length ≤ totF l
  | x :: l, q, h => by
    rw [totF]
    rcases List.mem_cons.1 h with rfl | h
    · omega
    · have := totF_mem h; omega
theorem fsm_of_tot {l : List Field} (h : totF l ≤ 1099511627776) : FSm l := ⟨by have := totF_len l; omega, fun f hf => by have := totF_mem hf; omega⟩
def szFS (l : List Field) (left : Int) : Int := if (totF l : Int) ≤ left then left - totF l else -1
@[go_sem] theorem szField_R (f : Field) (hf : f.name.length ≤ 9223372036854775807) (left : Int) (h0 : 0 ≤ left) (h1 : left ≤ 1099511627776) : R S0 111 [.agg [.str f.name, .int .i64 f.kind, .int .i64 f.weight], .int .i64 left] = some ⟨[none, none], .int .i64 (if (f.name.length : Int) ≤ left then left - f.name.length else -1)⟩ := by
  have hw : IntKind.i64.wrap (left - f.name.length) = left - f.name.length := wrap_in (by omega) (by omega)
  refine go111 rfl ?_; simp only [go_sem, ↓reduceIte, Nat.reduceAdd, Nat.reduceSub, Nat.reduceEqDiff, Nat.reduceLT, Nat.reduceLeDiff, Nat.reduceMul, Int.reduceNeg, Int.reduceToNat, Int.reduceEq, Int.reduceLT, Int.reduceLE, reduceCtorEq, Tryz.f111, hw]
  refine ⟨fun h => by rw [if_neg (by omega)], fun h => by rw [if_pos (by omega)]⟩
@[go_sem] theorem szFieldS_R (l : List Field) (hl : l.length ≤ 9223372036854775807) (hn : ∀ f ∈ l, f.name.length ≤ 9223372036854775807) (left : Int) (h0 : 0 ≤ left) (h1 : left ≤ 1099511627776) : R S0 50 [.sl (l.map Field.pv), .int .i64 left] = some ⟨[none, none], .int .i64 (szFS l left)⟩ := by
  have hw : IntKind.i64.wrap (left - l.length) = left - l.length := wrap_in (by omega) (by omega)
  have hlt := totF_len l
  by_cases hc : left - (l.length : Int) < 0
  · refine go50 rfl ?_; simp only [go_sem, ↓reduceIte, Nat.reduceAdd, Nat.reduceSub, Nat.reduceEqDiff, Nat.reduceLT, Nat.reduceLeDiff, Nat.reduceMul, Int.reduceNeg, Int.reduceToNat, Int.reduceEq, Int.reduceLT, Int.reduceLE, reduceCtorEq, Tryz.f50, hw, hc]
    rw [szFS, if_neg (by omega)]
  · refine go50 rfl ?_; simp only [go_sem, ↓reduceIte, Nat.reduceAdd, Nat.reduceSub, Nat.reduceEqDiff, Nat.reduceLT, Nat.reduceLeDiff, Nat.reduceMul, Int.reduceNeg, Int.reduceToNat, Int.reduceEq, Int.reduceLT, Int.reduceLE, reduceCtorEq, Tryz.f50, hw, hc]
    refine ends_for l.length (by omega) (fun i (x : Int) => mkSt [(0, .sl (l.map Field.pv)), (1, .int .i64 x), (5, .int .i64 i)] []) (fun i x => 0 ≤ x ∧ x + totF (l.take i) + (l.length - i : Nat) = left) 0 (left - l.length) (by omega) ⟨by omega, by simp [totF]⟩ ?_ ?_
    · rintro i x hi ⟨hx0, hx1⟩ hw ih
      obtain ⟨q, hq, hg, hd⟩ := drop_get hi default
      have hm := List.mem_of_getElem? hq
      have hqn := hn q hm
      have hxb : x ≤ 1099511627776 := by omega
      have hll : l = l.take i ++ q :: l.drop (i + 1) := by rw [← hd, List.take_append_drop]
      have hsum : totF l = totF (l.take i) + (q.name.length + 1 + totF (l.drop (i + 1))) := by
        conv => lhs; rw [hll]
        rw [totF_app, totF]
      have hdl := totF_len (l.drop (i + 1))
      rw [List.length_drop] at hdl
      have htk : l.take (i + 1) = l.take i ++ [q] := by rw [List.take_add_one, hq]; rfl
      simp only [go_sem, ↓reduceIte, Nat.reduceAdd, Nat.reduceSub, Nat.reduceEqDiff, Nat.reduceLT, Nat.reduceLeDiff, Nat.reduceMul, Int.reduceNeg, Int.reduceToNat, Int.reduceEq, Int.reduceLT, Int.reduceLE, reduceCtorEq, hi, hw, hg, hqn, hx0, hxb]
      refine ⟨fun hneg => ?_, fun hneg => ih _ ⟨by omega, ?_⟩⟩
      · rw [szFS, if_neg]
        split at hneg <;> omega
      · rw [htk, totF_app, totF, totF]
        split at hneg <;> rename_i hle
        · rw [if_pos hle]; omega
        · omega
    · rintro x ⟨hx0, hx1⟩
      rw [List.take_length] at hx1
      simp only [go_sem, ↓reduceIte, Nat.reduceAdd, Nat.reduceSub, Nat.reduceEqDiff, Nat.reduceLT, Nat.reduceLeDiff, Nat.reduceMul, Int.reduceNeg, Int.reduceToNat, Int.reduceEq, Int.reduceLT, Int.reduceLE, reduceCtorEq]
      rw [szFS, if_pos (by omega)]
      omega
@[go_sem] theorem toField_R (f : Field) : R S0 118 [.agg [.str f.name, .int .i64 f.kind, .int .i64 f.weight]] = some ⟨[none], .agg [.str f.name, .int .i64 f.kind, .int .i64 f.weight]⟩ := by
  refine go118 rfl ?_; simp only [go_sem, ↓reduceIte, Nat.reduceAdd, Nat.reduceSub, Nat.reduceEqDiff, Nat.reduceLT, Nat.reduceLeDiff, Nat.reduceMul, Int.reduceNeg, Int.reduceToNat, Int.reduceEq, Int.reduceLT, Int.reduceLE, reduceCtorEq, Tryz.f118]
@[go_sem] theorem toFieldS_R (l : List Field) (hl : l.length ≤ 1099511627776) : R S0 55 [.sl (l.map Field.pv)] = some ⟨[none], .slo 3 (l.map Field.pv)⟩ := by
  have h1 : l.length * 32 ≤ 140737488355328 := by omega
  have e1 : List.replicate l.length (PV.agg [.str [], .int .i64 0, .int .i64 0]) = (List.replicate l.length (Field.mk [] 0 0)).map Field.pv := by rw [List.map_replicate]; rfl
  refine go55 rfl ?_; simp only [go_sem, ↓reduceIte, Nat.reduceAdd, Nat.reduceSub, Nat.reduceEqDiff, Nat.reduceLT, Nat.reduceLeDiff, Nat.reduceMul, Int.reduceNeg, Int.reduceToNat, Int.reduceEq, Int.reduceLT, Int.reduceLE, reduceCtorEq, Tryz.f55, h1, e1]
  refine ends_for l.length (by omega) (fun i (x : List Field) => mkSt [(0, .sl (l.map Field.pv)), (3, .own 0), (4, .int .i64 i)] [.slo 3 (x.map Field.pv)]) (fun i x => x = l.take i ++ List.replicate (l.length - i) (Field.mk [] 0 0)) 0 (List.replicate l.length (Field.mk [] 0 0)) (by omega) (by simp) ?_ ?_
  · rintro i x hi hI hw ih
    obtain ⟨q, hq, hg, hd⟩ := drop_get hi default
    have hxl : x.length = l.length := by rw [hI]; simp; omega
    have hix : i < x.length := by omega
    have hxi : x[i]? = some (x[i]'hix) := List.getElem?_eq_getElem hix
    simp only [go_sem, ↓reduceIte, Nat.reduceAdd, Nat.reduceSub, Nat.reduceEqDiff, Nat.reduceLT, Nat.reduceLeDiff, Nat.reduceMul, Int.reduceNeg, Int.reduceToNat, Int.reduceEq, Int.reduceLT, Int.reduceLE, reduceCtorEq, hi, hw, hg, hix, hxi]
    refine ih _ ?_
    have e2 : l.length - i = (l.length - (i + 1)) + 1 := by omega
    rw [hI, List.set_append_right _ _ (by simp; omega), List.take_add_one, hq, e2, List.replicate_succ]
    simp [Nat.min_eq_left (Nat.le_of_lt hi)]
  · rintro x hI
    simp only [go_sem, ↓reduceIte, Nat.reduceAdd, Nat.reduceSub, Nat.reduceEqDiff, Nat.reduceLT, Nat.reduceLeDiff, Nat.reduceMul, Int.reduceNeg, Int.reduceToNat, Int.reduceEq, Int.reduceLT, Int.reduceLE, reduceCtorEq]
    rw [hI]
    simp
@[go_sem] theorem eqField_R (f : Field) : R S0 127 [.agg [.str f.name, .int .i64 f.kind, .int .i64 f.weight], .agg [.str f.name, .int .i64 f.kind, .int .i64 f.weight]] = some ⟨[none, none], .bool true⟩ := by
  refine go127 rfl ?_; simp only [go_sem, ↓reduceIte, Nat.reduceAdd, Nat.reduceSub, Nat.reduceEqDiff, Nat.reduceLT, Nat.reduceLeDiff, Nat.reduceMul, Int.reduceNeg, Int.reduceToNat, Int.reduceEq, Int.reduceLT, Int.reduceLE, reduceCtorEq, Tryz.f127]
@[go_sem] theorem eqFieldS_R (l : List Field) (hl : l.length ≤ 1099511627776) : R S0 60 [.sl (l.map Field.pv), .sl (l.map Field.pv)] = some ⟨[none, none], .bool true⟩ := by
  refine go60 rfl ?_; simp only [go_sem, ↓reduceIte, Nat.reduceAdd, Nat.reduceSub, Nat.reduceEqDiff, Nat.reduceLT, Nat.reduceLeDiff, Nat.reduceMul, Int.reduceNeg, Int.reduceToNat, Int.reduceEq, Int.reduceLT, Int.reduceLE, reduceCtorEq, Tryz.f60]
  refine ends_for l.length (by omega) (fun i _ => mkSt [(0, .sl (l.map Field.pv)), (1, .sl (l.map Field.pv)), (5, .int .i64 i)] []) (fun i _ => True) 0 () (by omega) trivial ?_ ?_
  · rintro i _ hi - hw ih
    obtain ⟨q, hq, hg, hd⟩ := drop_get hi default
    simp only [go_sem, ↓reduceIte, Nat.reduceAdd, Nat.reduceSub, Nat.reduceEqDiff, Nat.reduceLT, Nat.reduceLeDiff, Nat.reduceMul, Int.reduceNeg, Int.reduceToNat, Int.reduceEq, Int.reduceLT, Int.reduceLE, reduceCtorEq, hi, hw, hg]
    exact ih () trivial
  · rintro _ -
    simp only [go_sem, ↓reduceIte, Nat.reduceAdd, Nat.reduceSub, Nat.reduceEqDiff, Nat.reduceLT, Nat.reduceLeDiff, Nat.reduceMul, Int.reduceNeg, Int.reduceToNat, Int.reduceEq, Int.reduceLT, Int.reduceLE, reduceCtorEq]
end Go.Proofs.YtmanllfmgghadaaGreatDoor.PVE
namespace Go.Proofs.YtmanllfmgghadaaGreatDoor.PVE
open PV Query
@[go_sem] theorem Query.snocv (l : List Query) (a lo hi : Int) (b c : Str) (m : List Query) : l.map pv ++ [.agg [.int .i64 a, .str b, .str c, .int .i64 lo, .int .i64 hi, .sl (m.map pv)]] = (l ++ [Query.mk a b c lo hi m]).map pv := by simp [pv_eq, Query.kind, Query.field, Query.text, Query.low, Query.high, Query.parts]
@[go_sem] theorem Query.kind_mk (k lo hi : Int) (f t : Str) (p : List Query) : (Query.mk k f t lo hi p).kind = k := rfl
@[go_sem] theorem Query.field_mk (k lo hi : Int) (f t : Str) (p : List Query) : (Query.mk k f t lo hi p).field = f := rfl
@[go_sem] theorem Query.text_mk (k lo hi : Int) (f t : Str) (p : List Query) : (Query.mk k f t lo hi p).text = t := rfl
@[go_sem] theorem Query.low_mk (k lo hi : Int) (f t : Str) (p : List Query) : (Query.mk k f t lo hi p).low = lo := rfl
@[go_sem] theorem Query.high_mk (k lo hi : Int) (f t : Str) (p : List Query) : (Query.mk k f t lo hi p).high = hi := rfl
@[go_sem] theorem Query.parts_mk (k lo hi : Int) (f t : Str) (p : List Query) : (Query.mk k f t lo hi p).parts = p := rfl
mutual
def turnQ : Query → Query
  | .mk k f t lo hi p => if k = 9 then p.headD zeroQ else if k = 7 ∨ k = 8 then .mk (15 - k) [] [] 0 0 (turnL p) else .mk 9 [] [] 0 0 [.mk k f t lo hi p]
def turnL : List Query → List Query
  | [] => []
  | q :: l => turnQ q :: turnL l
end
theorem markText_ex (k : Nat) (hk : k ≤ 1099511627776) : ∃ r, R S0 66 [.int .i64 k] = some r ∧ ∃ s : Str, r = ⟨[none], .str s⟩ := by
  refine (fun ⟨r, h, hp⟩ => ⟨r, go66 rfl h, hp⟩ : (∃ r, Ends S0 _ _ r ∧ _) → _) ?_
  simp only [go_sem, ↓reduceIte, Nat.reduceAdd, Nat.reduceSub, Nat.reduceEqDiff, Nat.reduceLT, Nat.reduceLeDiff, Nat.reduceMul, Int.reduceNeg, Int.reduceToNat, Int.reduceEq, Int.reduceLT, Int.reduceLE, reduceCtorEq, Tryz.f66, ex_if, ex_bool, ex_and, ex_eq]
  refine ⟨fun _ => ⟨_, rfl⟩, fun _ => ?_⟩
  refine ends_wx (fun x : Nat × Str => x.1) (fun x => mkSt [(0, .int .i64 x.1), (3, .str x.2)] []) (fun x => x.2.length + x.1 ≤ 1099511627776) (k, []) (by simpa using hk) ?_
  rintro ⟨n, out⟩ hI ih
  simp only at hI
  cases n with
  | zero =>
    have h0 : ¬ (0 : Int) < ((0 : Nat) : Int) := by omega
    have h1 : out.length + 1 ≤ 9223372036854775807 := by omega
    have h2 : 1 + out.length ≤ 9223372036854775807 := by omega
    simp only [go_sem, ↓reduceIte, Nat.reduceAdd, Nat.reduceSub, Nat.reduceEqDiff, Nat.reduceLT, Nat.reduceLeDiff, Nat.reduceMul, Int.reduceNeg, Int.reduceToNat, Int.reduceEq, Int.reduceLT, Int.reduceLE, reduceCtorEq, h0, h1, h2, ex_if, ex_bool, ex_and, ex_eq]
    exact ⟨_, rfl⟩
  | succ m =>
    have h0 : (0 : Int) < ((m + 1 : Nat) : Int) := by omega
    have h2 : 1 + out.length ≤ 9223372036854775807 := by omega
    have h3 : ((m + 1 : Nat) : Int).tmod 10 = (((m + 1) % 10 : Nat) : Int) := (Int.ofNat_tmod (m + 1) 10).symm
    have h4 : ((m + 1 : Nat) : Int).tdiv 10 = (((m + 1) / 10 : Nat) : Int) := (Int.ofNat_tdiv (m + 1) 10).symm
    have h5 : IntKind.i64.wrap (((m + 1) / 10 : Nat) : Int) = (((m + 1) / 10 : Nat) : Int) := wrap_in (by omega) (by omega)
    have h6 : IntKind.i64.wrap (48 + (((m + 1) % 10 : Nat) : Int)) = ((48 + (m + 1) % 10 : Nat) : Int) := by rw [wrap_in (by omega) (by omega)]; omega
    have h7 : IntKind.u8.wrap ((48 + (m + 1) % 10 : Nat) : Int) = ((48 + (m + 1) % 10 : Nat) : Int) := by rw [IntKind.wrap_u8]; omega
    simp only [go_sem, ↓reduceIte, Nat.reduceAdd, Nat.reduceSub, Nat.reduceEqDiff, Nat.reduceLT, Nat.reduceLeDiff, Nat.reduceMul, Int.reduceNeg, Int.reduceToNat, Int.reduceEq, Int.reduceLT, Int.reduceLE, reduceCtorEq, h0, h2, h3, h4, h5, h6, h7, ex_if, ex_bool, ex_and, ex_eq]
    exact ⟨rfl, ih ((m + 1) / 10, _ :: out) (by simp only; omega) (by simp only [List.length_cons]; omega)⟩
noncomputable def mT (k : Nat) : Str := open Classical in if h : k ≤ 1099511627776 then (markText_ex k h).choose_spec.2.choose else []
@[go_sem] theorem markText_R (k : Nat) (hk : k ≤ 1099511627776) : R S0 66 [.int .i64 k] = some ⟨[none], .str (mT k)⟩ := by
  have h := (markText_ex k hk).choose_spec
  rw [h.1, h.2.choose_spec, mT, dif_pos hk]
mutual
def nodes : Query → Nat | .mk _ _ _ _ _ p => nodesL p
def nodesL : List Query → Nat
  | [] => 0
  | q :: l => nodes q + 1 + nodesL l
end
mutual
noncomputable def mkQ (k : Nat) : Query → Query | .mk _ _ _ _ _ p => .mk k (mT (k + 1)) (mT (k + 2)) (k + 3 : Nat) (k + 4 : Nat) (mkL (k + 5) p)
noncomputable def mkL (k : Nat) : List Query → List Query
  | [] => []
  | q :: l => mkQ k q :: mkL (k + 5 * (nodes q + 1)) l
end
theorem nodes_eq : ∀ q : Query, nodes q = nodesL q.parts
  | .mk _ _ _ _ _ p => by rw [nodes]; rfl
theorem mkQ_eq (k : Nat) : ∀ q : Query, mkQ k q = .mk k (mT (k + 1)) (mT (k + 2)) (k + 3 : Nat) (k + 4 : Nat) (mkL (k + 5) q.parts)
  | .mk _ _ _ _ _ p => by rw [mkQ]; rfl
theorem nodesL_app : ∀ (l m : List Query), nodesL (l ++ m) = nodesL l + nodesL m
  | [], m => by simp [nodesL]
  | q :: l, m => by rw [List.cons_append, nodesL, nodesL, nodesL_app l m]; omega
theorem mkL_app : ∀ (k : Nat) (l m : List Query), mkL k (l ++ m) = mkL k l ++ mkL (k + 5 * nodesL l) m
  | k, [], m => by simp [mkL, nodesL]
  | k, q :: l, m => by
    rw [List.cons_append, mkL, mkL, mkL_app _ l m, nodesL, List.cons_append]
    congr 3
    omega
theorem mkL_len : ∀ (k : Nat) (l : List Query), (mkL k l).length = l.length
  | k, [] => rfl
  | k, q :: l => by rw [mkL, List.length_cons, mkL_len _ l, List.length_cons]
theorem markS_R (l : List Query) : ∀ (h : ∀ q ∈ l, ∀ k : Nat, k + 5 * nodesL q.parts ≤ 1099511627776 → R S0 81 [.slo 6 (q.parts.map pvo), .int .i64 k] = some ⟨[some (.slo 6 ((mkL k q.parts).map pvo)), none], .int .i64 (k + 5 * nodesL q.parts : Nat)⟩) (k : Nat) (hk : k + 5 * nodesL l ≤ 1099511627776) (hl : l.length ≤ 1099511627776),
    R S0 81 [.slo 6 (l.map pvo), .int .i64 k] = some ⟨[some (.slo 6 ((mkL k l).map pvo)), none], .int .i64 (k + 5 * nodesL l : Nat)⟩ := by
  intro h k hk hl
  refine go81 rfl ?_; simp only [go_sem, ↓reduceIte, Nat.reduceAdd, Nat.reduceSub, Nat.reduceEqDiff, Nat.reduceLT, Nat.reduceLeDiff, Nat.reduceMul, Int.reduceNeg, Int.reduceToNat, Int.reduceEq, Int.reduceLT, Int.reduceLE, reduceCtorEq, Tryz.f81]
  refine ends_for l.length (by omega) (fun i _ => mkSt [(0, .own 0), (1, .int .i64 (k + 5 * nodesL (l.take i) : Nat)), (5, .int .i64 i), (1000000, .own 0)] [.slo 6 ((mkL k (l.take i) ++ l.drop i).map pvo)]) (fun i _ => True) 0 () (by omega) trivial ?_ ?_
  · rintro i _ hi - hw ih
    obtain ⟨q, hq, hg, hd⟩ := drop_get hi default
    have htk : l.take (i + 1) = l.take i ++ [q] := by rw [List.take_add_one, hq]; rfl
    have hll : l = l.take i ++ q :: l.drop (i + 1) := by rw [← hd, List.take_append_drop]
    have hsum : nodesL l = nodesL (l.take i) + (nodes q + 1 + nodesL (l.drop (i + 1))) := by
      conv => lhs; rw [hll]
      rw [nodesL_app, nodesL]
    have hnq := nodes_eq q
    have ih := ih () trivial
    rw [htk, nodesL_app, mkL_app, nodesL, nodesL, mkL, mkL, mkQ_eq] at ih
    obtain ⟨K, hK⟩ : ∃ K, K = k + 5 * nodesL (l.take i) := ⟨_, rfl⟩
    rw [← hK] at ih ⊢
    have hr := h q (List.mem_of_getElem? hq) (K + 5) (by omega)
    have hlen : (mkL k (l.take i)).length = i := by rw [mkL_len]; simp; omega
    obtain ⟨A, hA⟩ : ∃ A, A = mkL k (l.take i) := ⟨_, rfl⟩
    rw [← hA] at ih hlen ⊢
    rw [hd]
    obtain ⟨X, hX⟩ : ∃ X, X = A ++ q :: l.drop (i + 1) := ⟨_, rfl⟩
    rw [← hX]
    have hx : X[i]? = some q := by rw [hX, List.getElem?_append_right (by omega), hlen, Nat.sub_self]; rfl
    have hxi : i < X.length := by rw [hX]; simp; omega
    have hset : ∀ y, X.set i y = A ++ y :: l.drop (i + 1) := fun y => by rw [hX, List.set_append_right _ _ (by omega), hlen, Nat.sub_self]; rfl
    have w1 : IntKind.i64.wrap ((K : Int) + 1) = ((K + 1 : Nat) : Int) := by rw [wrap_in (by omega) (by omega)]; omega
    have w2 : IntKind.i64.wrap (((K + 1 : Nat) : Int) + 1) = ((K + 2 : Nat) : Int) := by rw [wrap_in (by omega) (by omega)]; omega
    have w3 : IntKind.i64.wrap (((K + 2 : Nat) : Int) + 1) = ((K + 3 : Nat) : Int) := by rw [wrap_in (by omega) (by omega)]; omega
    have w4 : IntKind.i64.wrap (((K + 3 : Nat) : Int) + 1) = ((K + 4 : Nat) : Int) := by rw [wrap_in (by omega) (by omega)]; omega
    have w5 : IntKind.i64.wrap (((K + 4 : Nat) : Int) + 1) = ((K + 5 : Nat) : Int) := by rw [wrap_in (by omega) (by omega)]; omega
    have b1 : K + 1 ≤ 1099511627776 := by omega
    have b2 : K + 2 ≤ 1099511627776 := by omega
    have e1 : k + 5 * (nodesL (l.take i) + (nodes q + 1 + 0)) = K + 5 + 5 * nodesL q.parts := by omega
    rw [e1, List.append_assoc, List.cons_append, List.nil_append] at ih
    simp only [go_sem, ↓reduceIte, Nat.reduceAdd, Nat.reduceSub, Nat.reduceEqDiff, Nat.reduceLT, Nat.reduceLeDiff, Nat.reduceMul, Int.reduceNeg, Int.reduceToNat, Int.reduceEq, Int.reduceLT, Int.reduceLE, reduceCtorEq, hi, hw, hx, hxi, hr, w1, w2, w3, w4, w5, b1, b2]
    rw [hset]
    exact ih
  · rintro _ -
    have hml := mkL_len k l
    rw [List.take_length, List.drop_length, List.append_nil]
    simp only [go_sem, ↓reduceIte, Nat.reduceAdd, Nat.reduceSub, Nat.reduceEqDiff, Nat.reduceLT, Nat.reduceLeDiff, Nat.reduceMul, Int.reduceNeg, Int.reduceToNat, Int.reduceEq, Int.reduceLT, Int.reduceLE, reduceCtorEq, hml]
theorem mark_R (q : Query) : q.Sm → ∀ k : Nat, k + 5 * nodesL q.parts ≤ 1099511627776 → R S0 81 [.slo 6 (q.parts.map pvo), .int .i64 k] = some ⟨[some (.slo 6 ((mkL k q.parts).map pvo)), none], .int .i64 (k + 5 * nodesL q.parts : Nat)⟩ := by
  refine Query.ind (P := fun q => q.Sm → ∀ k : Nat, k + 5 * nodesL q.parts ≤ 1099511627776 → R S0 81 [.slo 6 (q.parts.map pvo), .int .i64 k] = some ⟨[some (.slo 6 ((mkL k q.parts).map pvo)), none], .int .i64 (k + 5 * nodesL q.parts : Nat)⟩) (fun q ih hq k hk => ?_) q
  obtain ⟨_, hf, ht, hp, hs⟩ := hq
  exact markS_R q.parts (fun p hp => ih p hp (hs p hp)) k hk hp
theorem markQuery_R (q : Query) (hq : q.Sm) (k : Nat) (hk : k + 5 * nodesL q.parts ≤ 1099511627776) : R S0 30 [.agg [.int .i64 q.kind, .str q.field, .str q.text, .int .i64 q.low, .int .i64 q.high, .slo 6 (q.parts.map pvo)], .int .i64 k] = some ⟨[some (.agg [.int .i64 q.kind, .str q.field, .str q.text, .int .i64 q.low, .int .i64 q.high, .slo 6 ((mkL k q.parts).map pvo)]), none], .int .i64 (k + 5 * nodesL q.parts : Nat)⟩ := by
  have h := mark_R q hq k hk
  refine go30 rfl ?_; simp only [go_sem, ↓reduceIte, Nat.reduceAdd, Nat.reduceSub, Nat.reduceEqDiff, Nat.reduceLT, Nat.reduceLeDiff, Nat.reduceMul, Int.reduceNeg, Int.reduceToNat, Int.reduceEq, Int.reduceLT, Int.reduceLE, reduceCtorEq, Tryz.f30, h]
theorem nodesL_tot : ∀ l : List Query, (∀ q ∈ l, nodes q ≤ tot q) → nodesL l ≤ totL l
  | [], _ => Nat.le_refl _
  | q :: l, h => by
    have := nodesL_tot l fun p hp => h p (List.mem_cons_of_mem _ hp)
    have := h q (by simp)
    rw [nodesL, totL]; omega
theorem nodes_tot (q : Query) : nodes q ≤ tot q := by
  refine Query.ind (P := fun q => nodes q ≤ tot q) (fun q ih => ?_) q
  have := nodesL_tot q.parts ih
  rw [nodes_eq, tot_eq]; omega
end Go.Proofs.YtmanllfmgghadaaGreatDoor.PVE
namespace Go.Proofs.YtmanllfmgghadaaGreatDoor.PVE
open PV Query
@[go_sem] theorem vals_slice {E : Env} {st : St} {t : Nat} {x : Operand} {lo hi mx : Option Operand} : valsOf E st (.slice t x lo hi mx) = ev E st x :: (lo.toList ++ hi.toList ++ mx.toList).map (ev E st) := by
  cases lo <;> cases hi <;> cases mx <;> simp [valsOf, Go.Op.operands]
attribute [go_sem] Option.toList_some Option.toList_none
@[go_sem] theorem sort_R (l : List Str) (hl : l.length ≤ 1099511627776) : R S0 269 [.slo 1 (l.map .str)] = some ⟨[some (.slo 1 ((l.mergeSort leStr).map .str))], .tup []⟩ := by
  refine R_lib (Eq.trans (b := libSort [.slo 1 (l.map .str)]) (by kernel_rfl) ?_)
  rw [libSort, strsOf_map, strsAll_map, if_pos ⟨rfl, by simpa using hl⟩]
@[go_sem] theorem compact_R (l : List Str) (hl : l.length ≤ 1099511627776) : R S0 270 [.slo 1 (l.map .str)] = some ⟨[none], .slo 1 ((Lib.compact l).map .str)⟩ := by
  refine R_lib (Eq.trans (b := libCompact [.slo 1 (l.map .str)]) (by kernel_rfl) ?_)
  rw [libCompact, strsOf_map, strsAll_map, if_pos ⟨rfl, by simpa using hl⟩]
def uniq (l : List Str) : List Str := Lib.compact (l.mergeSort leStr)
@[go_sem] theorem unique_R (l : List Str) (hl : l.length ≤ 1099511627776) : R S0 236 [.sl (l.map .str)] = some ⟨[none], .slo 1 ((uniq l).map .str)⟩ := by
  have h1 : l.length * 16 ≤ 140737488355328 := by omega
  have h2 : (l.mergeSort leStr).length = l.length := List.length_mergeSort _
  have h3 : (l.mergeSort leStr).length ≤ 1099511627776 := by omega
  have h4 : (Lib.compact (l.mergeSort leStr)).length * 16 ≤ 140737488355328 := by have := compact_len (l.mergeSort leStr); omega
  refine go236 rfl ?_; simp only [go_sem, ↓reduceIte, Nat.reduceAdd, Nat.reduceSub, Nat.reduceEqDiff, Nat.reduceLT, Nat.reduceLeDiff, Nat.reduceMul, Int.reduceNeg, Int.reduceToNat, Int.reduceEq, Int.reduceLT, Int.reduceLE, reduceCtorEq, Tryz.f236, h1, hl, h3, h4]
  rfl
@[go_sem] theorem implWords_R (s : Str) (hs : s.length ≤ 1099511627776) : R S0 225 [.str s] = some ⟨[none], .slo 3 ((words s).map Wrd.pv)⟩ := by
  refine go225 rfl ?_; simp only [go_sem, ↓reduceIte, Nat.reduceAdd, Nat.reduceSub, Nat.reduceEqDiff, Nat.reduceLT, Nat.reduceLeDiff, Nat.reduceMul, Int.reduceNeg, Int.reduceToNat, Int.reduceEq, Int.reduceLT, Int.reduceLE, reduceCtorEq, Tryz.f225, hs]
  refine ends_wh (fun x : Nat × List Wrd => s.length - x.1) (fun x => mkSt [(0, .str s), (3, .own 0), (4, .int .i64 x.1)] [.slo 3 (x.2.map Wrd.pv)]) (fun x => x.1 ≤ s.length + 1 ∧ x.2.length ≤ x.1 ∧ x.2 ++ wordsAt x.1 (s.drop x.1) = words s) (0, []) ⟨by omega, Nat.le_refl _, rfl⟩ ?_
  rintro ⟨i, out⟩ ⟨hi, ho, hI⟩ ih
  simp only at hi ho hI
  by_cases hlt : i < s.length
  · simp only [go_sem, ↓reduceIte, Nat.reduceAdd, Nat.reduceSub, Nat.reduceEqDiff, Nat.reduceLT, Nat.reduceLeDiff, Nat.reduceMul, Int.reduceNeg, Int.reduceToNat, Int.reduceEq, Int.reduceLT, Int.reduceLE, reduceCtorEq, hlt]
    refine ends_wh (fun k : Nat => s.length - k) (fun k => mkSt [(0, .str s), (3, .own 0), (4, .int .i64 k), (5, .int .i64 i)] [.slo 3 (out.map Wrd.pv)]) (fun k => i ≤ k ∧ k ≤ s.length ∧ run (s.drop i) = (k - i) + run (s.drop k)) i ⟨Nat.le_refl _, by omega, by simp⟩ ?_
    rintro k ⟨hk, hkl, hr⟩ ihk
    have hsp := drop_getD hlt (0 : UInt8)
    have hk1 : IntKind.i64.wrap ((k : Int) + 1) = ((k + 1 : Nat) : Int) := wrap_in (by omega) (by omega)
    have hcut : cut s (i : Int) (k : Int) = (s.drop i).take (k - i) := by simp only [cut, Int.toNat_natCast, List.drop_take]
    have hnx : run (s.drop k) = 0 → wordsAt k (s.drop k) = wordsAt (k + 1) (s.drop (k + 1)) := by
      intro h0
      by_cases hkl2 : k < s.length
      · have hdk := drop_getD hkl2 (0 : UInt8)
        have hb : wordB (s.getD k 0) = false := by
          cases hb : wordB (s.getD k 0) with
          | false => rfl
          | true => rw [hdk, run, if_pos hb] at h0; omega
        rw [hdk, words_skip _ _ hb]
      · rw [List.drop_of_length_le (by omega), List.drop_of_length_le (by omega), wordsAt, wordsAt]
    have f1 := fun (h : k = i) (h0 : run (s.drop k) = 0) => ih (k + 1, out) (by simp only; omega) ⟨by simp only; omega, by simp only; omega, by
      have := hnx h0
      subst h
      rw [this] at hI
      exact hI⟩
    have f2 := fun (h : ¬ k = i) (h0 : run (s.drop k) = 0) => ih (k + 1, out ++ [⟨cut s (i : Int) (k : Int), i, k⟩]) (by simp only; omega) ⟨by simp only; omega, by simp; omega, by
      have hb : wordB (s.getD i 0) = true := by
        cases hb : wordB (s.getD i 0) with
        | true => rfl
        | false => rw [hsp, run, if_neg (by rw [hb]; simp), h0] at hr; omega
      have e : i + (k - i) = k := by omega
      have hn2 := hnx h0
      rw [h0, Nat.add_zero] at hr
      rw [hsp, wordsAt, dif_pos hb, ← hsp, hr, e, List.drop_drop, e, hn2] at hI
      simp only [hcut, List.append_assoc]
      exact hI⟩
    simp only at f1 f2
    by_cases hkl2 : k < s.length
    · have hdk := drop_getD hkl2 (0 : UInt8)
      simp only [go_sem, ↓reduceIte, Nat.reduceAdd, Nat.reduceSub, Nat.reduceEqDiff, Nat.reduceLT, Nat.reduceLeDiff, Nat.reduceMul, Int.reduceNeg, Int.reduceToNat, Int.reduceEq, Int.reduceLT, Int.reduceLE, reduceCtorEq, hkl2, hk1]
      refine ⟨fun h => ihk (k + 1) (by omega) ⟨by omega, by omega, ?_⟩, fun h => ?_⟩
      · rw [hr, hdk, run, if_pos (show wordB (s.getD k 0) = true from h)]; omega
      · have h0 : run (s.drop k) = 0 := by rw [hdk, run, if_neg (by rw [show wordB (s.getD k 0) = false from h]; simp)]
        exact ⟨fun h => ⟨⟨hk, hkl⟩, by omega, f2 (by omega) h0⟩, fun h => f1 (by omega) h0⟩
    · have h0 : run (s.drop k) = 0 := by rw [List.drop_of_length_le (by omega)]; rfl
      simp only [go_sem, ↓reduceIte, Nat.reduceAdd, Nat.reduceSub, Nat.reduceEqDiff, Nat.reduceLT, Nat.reduceLeDiff, Nat.reduceMul, Int.reduceNeg, Int.reduceToNat, Int.reduceEq, Int.reduceLT, Int.reduceLE, reduceCtorEq, hkl2, hk1]
      exact ⟨fun h => ⟨⟨hk, hkl⟩, by omega, f2 (by omega) h0⟩, fun h => f1 (by omega) h0⟩
  · simp only [go_sem, ↓reduceIte, Nat.reduceAdd, Nat.reduceSub, Nat.reduceEqDiff, Nat.reduceLT, Nat.reduceLeDiff, Nat.reduceMul, Int.reduceNeg, Int.reduceToNat, Int.reduceEq, Int.reduceLT, Int.reduceLE, reduceCtorEq, hlt]
    rw [List.drop_of_length_le (by omega), wordsAt, List.append_nil] at hI
    rw [hI]
theorem words_text (s : Str) (i : Nat) : ∀ w ∈ wordsAt i s, w.text.length ≤ s.length := by
  induction hn : s.length using Nat.strongRecOn generalizing s i with
  | _ n ih =>
    cases s with
    | nil => intro w hw; rw [wordsAt] at hw; cases hw
    | cons b s =>
      intro w hw
      rw [wordsAt] at hw
      split at hw
      · rename_i hb
        have hr : run (b :: s) = run s + 1 := by simp [run, hb]
        rcases List.mem_cons.1 hw with rfl | hw
        · simp only [List.length_take]; omega
        · have := ih _ (by rw [List.length_drop, hr]; simp at hn ⊢; omega) _ _ rfl w hw
          rw [List.length_drop] at this
          omega
      · have := ih s.length (by simp at hn; omega) s _ rfl w hw
        simp at hn; omega
def terms (s : Str) : List Str := (words s).map fun w => stem w.text
@[go_sem] theorem implTerms_R (s : Str) (hs : s.length ≤ 1099511627776) : R S0 180 [.str s] = some ⟨[none], .slo 1 ((terms s).map .str)⟩ := by
  have hwl := (words_len s 0).1
  have hwt : ∀ w ∈ words s, w.text.length ≤ 1099511627776 := fun w hw => Nat.le_trans (words_text s 0 w hw) hs
  refine go180 rfl ?_; simp only [go_sem, ↓reduceIte, Nat.reduceAdd, Nat.reduceSub, Nat.reduceEqDiff, Nat.reduceLT, Nat.reduceLeDiff, Nat.reduceMul, Int.reduceNeg, Int.reduceToNat, Int.reduceEq, Int.reduceLT, Int.reduceLE, reduceCtorEq, Tryz.f180, hs]
  refine ends_for (words s).length (by unfold words; omega) (fun i (x : List Str) => mkSt [(3, .own 0), (8, .own 1), (9, .int .i64 (words s).length), (10, .int .i64 i)] [.slo 1 (x.map .str), .slo 3 ((words s).map Wrd.pv)]) (fun i x => x = ((words s).take i).map fun w => stem w.text) 0 [] (by omega) rfl ?_ ?_
  · rintro i x hi hI hw ih
    obtain ⟨y, hy, hg, hd⟩ := drop_get hi default
    have hyt := hwt y (List.mem_of_getElem? hy)
    have hxl : x.length = i := by rw [hI]; simp; omega
    have hwb : i + 1 ≤ 1099511627776 := by unfold words at hi; omega
    have h1 : (i + 1) * 16 ≤ 140737488355328 := by omega
    simp only [go_sem, ↓reduceIte, Nat.reduceAdd, Nat.reduceSub, Nat.reduceEqDiff, Nat.reduceLT, Nat.reduceLeDiff, Nat.reduceMul, Int.reduceNeg, Int.reduceToNat, Int.reduceEq, Int.reduceLT, Int.reduceLE, reduceCtorEq, hi, hw, hg, hy, hyt, hxl, h1]
    refine ih _ ?_
    rw [hI, List.take_add_one, hy]; simp
  · rintro x hI
    rw [List.take_length] at hI
    simp only [go_sem, ↓reduceIte, Nat.reduceAdd, Nat.reduceSub, Nat.reduceEqDiff, Nat.reduceLT, Nat.reduceLeDiff, Nat.reduceMul, Int.reduceNeg, Int.reduceToNat, Int.reduceEq, Int.reduceLT, Int.reduceLE, reduceCtorEq]
    rw [hI]; rfl
@[go_sem] theorem specTerms_R (s : Str) (hs : s.length ≤ 1099511627776) : R S0 221 [.str s] = some ⟨[none], .slo 1 ((terms s).map .str)⟩ := by
  have hwl := (words_len s 0).1
  have hwt : ∀ w ∈ words s, w.text.length ≤ 1099511627776 := fun w hw => Nat.le_trans (words_text s 0 w hw) hs
  refine go221 rfl ?_; simp only [go_sem, ↓reduceIte, Nat.reduceAdd, Nat.reduceSub, Nat.reduceEqDiff, Nat.reduceLT, Nat.reduceLeDiff, Nat.reduceMul, Int.reduceNeg, Int.reduceToNat, Int.reduceEq, Int.reduceLT, Int.reduceLE, reduceCtorEq, Tryz.f221, hs]
  refine ends_for (words s).length (by unfold words; omega) (fun i (x : List Str) => mkSt [(3, .own 0), (4, .own 1), (5, .int .i64 i)] [.slo 1 (x.map .str), .slo 3 ((words s).map Wrd.pv)]) (fun i x => x = ((words s).take i).map fun w => stem w.text) 0 [] (by omega) rfl ?_ ?_
  · rintro i x hi hI hw ih
    obtain ⟨y, hy, hg, hd⟩ := drop_get hi default
    have hyt := hwt y (List.mem_of_getElem? hy)
    have hxl : x.length = i := by rw [hI]; simp; omega
    have hwb : i + 1 ≤ 1099511627776 := by unfold words at hi; omega
    have h1 : (i + 1) * 16 ≤ 140737488355328 := by omega
    simp only [go_sem, ↓reduceIte, Nat.reduceAdd, Nat.reduceSub, Nat.reduceEqDiff, Nat.reduceLT, Nat.reduceLeDiff, Nat.reduceMul, Int.reduceNeg, Int.reduceToNat, Int.reduceEq, Int.reduceLT, Int.reduceLE, reduceCtorEq, hi, hw, hg, hy, hyt, hxl, h1]
    refine ih _ ?_
    rw [hI, List.take_add_one, hy]; simp
  · rintro x hI
    rw [List.take_length] at hI
    simp only [go_sem, ↓reduceIte, Nat.reduceAdd, Nat.reduceSub, Nat.reduceEqDiff, Nat.reduceLT, Nat.reduceLeDiff, Nat.reduceMul, Int.reduceNeg, Int.reduceToNat, Int.reduceEq, Int.reduceLT, Int.reduceLE, reduceCtorEq]
    rw [hI]; rfl
def addS : List Str → Str → List Str
  | [], t => [t]
  | x :: l, t => if Go.Op.bytesLess x t = true then x :: addS l t else if x = t then x :: l else t :: x :: l
@[go_sem] theorem l2Add_R (l : List Str) (t : Str) (hl : l.length ≤ 1099511627776) : R S0 240 [.slo 1 (l.map .str), .str t] = some ⟨[none, none], .slo 1 ((addS l t).map .str)⟩ := by
  have h1 : ∀ i, i ≤ l.length → i * 16 ≤ 140737488355328 := fun i hi => by omega
  refine go240 rfl ?_; simp only [go_sem, ↓reduceIte, Nat.reduceAdd, Nat.reduceSub, Nat.reduceEqDiff, Nat.reduceLT, Nat.reduceLeDiff, Nat.reduceMul, Int.reduceNeg, Int.reduceToNat, Int.reduceEq, Int.reduceLT, Int.reduceLE, reduceCtorEq, Tryz.f240]
  refine ends_for l.length (by omega) (fun i _ => mkSt [(0, .own 0), (1, .str t), (5, .int .i64 i)] [.slo 1 (l.map .str)]) (fun i _ => addS l t = l.take i ++ addS (l.drop i) t) 0 () (by omega) (by simp) ?_ ?_
  · rintro i _ hi hI hw ih
    obtain ⟨y, hy, hg, hd⟩ := drop_get hi default
    have htk : l.take (i + 1) = l.take i ++ [y] := by rw [List.take_add_one, hy]; rfl
    have hlen : (l.take i).length = i := by simp; omega
    have c2 : (l.drop i).take (l.length - i) = l.drop i := List.take_of_length_le (by simp)
    have hdl : (l.drop i).length = l.length - i := List.length_drop
    have hil : i ≤ l.length := by omega
    have b1 : i * 16 ≤ 140737488355328 := by omega
    have b2 : (i + 1) * 16 ≤ 140737488355328 := by omega
    have b3 : (i + 1 + (l.length - i)) * 16 ≤ 140737488355328 := by omega
    rw [hd, addS] at hI
    cases hb : Go.Op.bytesLess y t with
    | true =>
      rw [hb, if_pos rfl] at hI
      simp only [go_sem, ↓reduceIte, Nat.reduceAdd, Nat.reduceSub, Nat.reduceEqDiff, Nat.reduceLT, Nat.reduceLeDiff, Nat.reduceMul, Int.reduceNeg, Int.reduceToNat, Int.reduceEq, Int.reduceLT, Int.reduceLE, reduceCtorEq, hi, hw, hg, hy, hb]
      exact ih () (by rw [hI, htk]; simp)
    | false =>
      rw [hb, if_neg (by simp)] at hI
      by_cases he : y = t
      · rw [if_pos he] at hI
        subst he
        simp only [go_sem, ↓reduceIte, Nat.reduceAdd, Nat.reduceSub, Nat.reduceEqDiff, Nat.reduceLT, Nat.reduceLeDiff, Nat.reduceMul, Int.reduceNeg, Int.reduceToNat, Int.reduceEq, Int.reduceLT, Int.reduceLE, reduceCtorEq, hi, hw, hg, hy, hb]
        rw [hI, ← hd, List.take_append_drop]
      · rw [if_neg he] at hI
        simp only [go_sem, ↓reduceIte, Nat.reduceAdd, Nat.reduceSub, Nat.reduceEqDiff, Nat.reduceLT, Nat.reduceLeDiff, Nat.reduceMul, Int.reduceNeg, Int.reduceToNat, Int.reduceEq, Int.reduceLT, Int.reduceLE, reduceCtorEq, hi, hw, hg, hy, hb, he, c2, hlen, hdl, hil, b1, b2, b3]
        exact ⟨by decide +kernel, by rw [hI, ← hd]⟩
  · rintro _ hI
    have c1 : l.take l.length = l := List.take_length
    have c2 : (l.drop l.length).take (l.length - l.length) = [] := by simp
    have b1 : l.length * 16 ≤ 140737488355328 := by omega
    have b2 : (l.length + 1) * 16 ≤ 140737488355328 := by omega
    rw [List.take_length, List.drop_length, addS] at hI
    simp only [go_sem, ↓reduceIte, Nat.reduceAdd, Nat.reduceSub, Nat.reduceEqDiff, Nat.reduceLT, Nat.reduceLeDiff, Nat.reduceMul, Int.reduceNeg, Int.reduceToNat, Int.reduceEq, Int.reduceLT, Int.reduceLE, reduceCtorEq, c1, c2, b1, b2]
    exact ⟨by decide +kernel, by rw [hI]⟩
mutual
def termsI : Query → List Str → List Str | .mk k _ t _ _ p, out => if k = 2 ∨ k = 3 then out ++ (terms t).filter (· ≠ []) else if k = 7 ∨ k = 8 then termsIL p out else out
def termsIL : List Query → List Str → List Str
  | [], out => out
  | q :: l, out => termsIL l (termsI q out)
end
theorem words_len2 (s : Str) : (terms s).length ≤ s.length := by
  rw [terms, List.length_map]
  exact (words_len s 0).1
def tnz (s : Str) : List Str := (terms s).filter (· ≠ [])
mutual
def termsS : Query → List Str → List Str | .mk k _ t _ _ p, out => if k = 9 then out else termsSL p (if k = 2 ∨ k = 3 then (tnz t).foldl addS out else out)
def termsSL : List Query → List Str → List Str
  | [], out => out
  | q :: l, out => termsSL l (termsS q out)
end
theorem addS_len (l : List Str) (t : Str) : (addS l t).length ≤ l.length + 1 := by
  induction l with
  | nil => simp [addS]
  | cons x l ih =>
    simp only [addS]
    split
    · simp; omega
    · split <;> simp
end Go.Proofs.YtmanllfmgghadaaGreatDoor.PVE
namespace Go.Proofs.YtmanllfmgghadaaGreatDoor.PVE
open PV Query
abbrev Asc (l : List Str) : Prop := l.Pairwise (· < ·)
theorem bl_iff {x y : Str} : (Go.Op.bytesLess x y = true) = (x < y) := by rw [Go.Proofs.bytesLess_eq]; simp
theorem addS_mem {x : Str} : ∀ {l : List Str} {t : Str}, x ∈ addS l t ↔ x = t ∨ x ∈ l
  | [], t => by simp [addS]
  | y :: l, t => by
    rw [addS]
    split
    · rw [List.mem_cons, addS_mem, List.mem_cons]; grind
    · split
      · rename_i h; subst h; simp
      · simp
theorem str_tri {x y : Str} (h1 : ¬ x < y) (h2 : ¬ x = y) : y < x := by
  rcases Std.lt_trichotomy x y with h | h | h
  · exact absurd h h1
  · exact absurd h h2
  · exact h
theorem addS_asc : ∀ {l : List Str} {t : Str}, Asc l → Asc (addS l t)
  | [], t, _ => by simp [addS]
  | y :: l, t, h => by
    have hy := List.pairwise_cons.1 h
    rw [addS]
    split
    · rename_i hb
      rw [bl_iff] at hb
      refine List.pairwise_cons.2 ⟨fun z hz => ?_, addS_asc hy.2⟩
      rcases addS_mem.1 hz with rfl | hz
      · exact hb
      · exact hy.1 z hz
    · rename_i hb
      rw [bl_iff] at hb
      split
      · exact h
      · rename_i he
        have hlt := str_tri hb he
        refine List.pairwise_cons.2 ⟨fun z hz => ?_, h⟩
        rcases List.mem_cons.1 hz with rfl | hz
        · exact hlt
        · exact List.lt_trans hlt (hy.1 z hz)
theorem foldAdd : ∀ (m l : List Str), Asc l → Asc (m.foldl addS l) ∧ ∀ x, x ∈ m.foldl addS l ↔ x ∈ l ∨ x ∈ m
  | [], l, h => ⟨h, fun x => by simp⟩
  | t :: m, l, h => by
    have := foldAdd m (addS l t) (addS_asc h)
    refine ⟨this.1, fun x => ?_⟩
    rw [List.foldl_cons, this.2 x, addS_mem, List.mem_cons]
    grind
theorem asc_ext : ∀ {l m : List Str}, Asc l → Asc m → (∀ x, x ∈ l ↔ x ∈ m) → l = m
  | [], [], _, _, _ => rfl
  | [], y :: m, _, _, h => absurd ((h y).2 (by simp)) (by simp)
  | y :: l, [], _, _, h => absurd ((h y).1 (by simp)) (by simp)
  | x :: l, y :: m, h1, h2, h => by
    have hx := List.pairwise_cons.1 h1
    have hy := List.pairwise_cons.1 h2
    have hxy : x = y := by
      rcases List.mem_cons.1 ((h x).1 (by simp)) with e | e
      · exact e
      · rcases List.mem_cons.1 ((h y).2 (by simp)) with e2 | e2
        · exact e2.symm
        · exact absurd (hx.1 y e2) (List.lt_asymm (hy.1 x e))
    subst hxy
    congr 1
    refine asc_ext hx.2 hy.2 fun z => ?_
    have hz := h z
    simp only [List.mem_cons] at hz
    constructor
    · intro hm
      rcases hz.1 (.inr hm) with rfl | h
      · exact absurd (hx.1 z hm) (List.lt_irrefl z)
      · exact h
    · intro hm
      rcases hz.2 (.inr hm) with rfl | h
      · exact absurd (hy.1 z hm) (List.lt_irrefl z)
      · exact h
theorem compact_mem {x : Str} (l : List Str) : x ∈ Lib.compact l ↔ x ∈ l := by
  unfold Lib.compact Lib.compactUpTo
  simp only [List.mem_map, List.mem_filter, List.mem_range]
  constructor
  · rintro ⟨j, ⟨hj, _⟩, rfl⟩
    rw [getElem!_pos (l.toArray) j (by simpa using hj)]
    simp
  · intro hx
    obtain ⟨i, hi, rfl⟩ := List.getElem_of_mem hx
    have key : ∀ i (hi : i < l.length), ∃ j, (j < l.length ∧ Lib.keeps l.toArray j = true) ∧ l.toArray[j]! = l[i] := by
      intro i
      induction i with
      | zero => intro hi; exact ⟨0, ⟨hi, by simp [Lib.keeps]⟩, by rw [getElem!_pos (l.toArray) 0 (by simpa using hi)]; simp⟩
      | succ i ih =>
        intro hi
        have e1 : l.toArray[i + 1]! = l[i + 1] := by rw [getElem!_pos (l.toArray) (i + 1) (by simpa using hi)]; simp
        have e0 : l.toArray[i]! = l[i] := by rw [getElem!_pos (l.toArray) i (by simp; omega)]; simp
        by_cases hk : Lib.keeps l.toArray (i + 1) = true
        · exact ⟨i + 1, ⟨hi, hk⟩, e1⟩
        · obtain ⟨j, hj, hj2⟩ := ih (by omega)
          refine ⟨j, hj, ?_⟩
          simp only [Lib.keeps, decide_eq_true_eq, not_or, Nat.add_sub_cancel, ne_eq, Decidable.not_not] at hk
          rw [hj2, ← e1, hk.2, e0]
    obtain ⟨j, h1, h2⟩ := key i hi
    exact ⟨j, h1, h2⟩
theorem compact_asc (l : List Str) (h : l.Pairwise (· ≤ ·)) : Asc (Lib.compact l) := by
  unfold Lib.compact Lib.compactUpTo Asc
  rw [List.pairwise_map, List.pairwise_filter]
  have h2 : (List.range l.length).Pairwise (fun a b => a < b ∧ b < l.length) := by
    refine List.Pairwise.imp_of_mem (R := (· < ·)) ?_ List.pairwise_lt_range
    intro a b ha hb hab
    exact ⟨hab, by simpa using hb⟩
  refine h2.imp ?_
  rintro a b ⟨hab, hb⟩ _ hk
  simp only [Lib.keeps, decide_eq_true_eq] at hk
  have hk := hk.resolve_left (by omega)
  rw [getElem!_pos (l.toArray) b (by simpa using hb), getElem!_pos (l.toArray) (b - 1) (by simp; omega)] at hk
  rw [getElem!_pos (l.toArray) b (by simpa using hb), getElem!_pos (l.toArray) a (by simp; omega)]
  simp only [List.getElem_toArray] at hk ⊢
  rw [List.pairwise_iff_getElem] at h
  have h1 : l[b - 1] ≤ l[b] := h (b - 1) b (by omega) hb (by omega)
  have h3 : l[a] ≤ l[b - 1] := by
    by_cases e : a = b - 1
    · subst e; exact Std.le_refl _
    · exact h a (b - 1) (by omega) (by omega) (by omega)
  have h4 : l[b - 1] < l[b] := Std.lt_of_le_of_ne h1 fun e => hk e.symm
  exact Std.lt_of_le_of_lt h3 h4
theorem uniq_asc (l : List Str) : Asc (uniq l) := by
  refine compact_asc _ ?_
  have := List.pairwise_mergeSort (le := leStr) (fun a b c h1 h2 => by simp only [leStr, decide_eq_true_eq] at *; exact Std.le_trans h1 h2) (fun a b => by simp only [leStr, Bool.or_eq_true, decide_eq_true_eq]; exact Std.le_total) l
  exact this.imp fun h => by simpa [leStr] using h
theorem uniq_mem {x : Str} (l : List Str) : x ∈ uniq l ↔ x ∈ l := by
  rw [uniq, compact_mem, List.mem_mergeSort]
theorem nameOk_len {s : Str} (h : nameOk s = true) : s.length ≤ 8 := by
  simp only [nameOk, inB, Bool.and_eq_true, decide_eq_true_eq] at h
  omega
end Go.Proofs.YtmanllfmgghadaaGreatDoor.PVE
