/- Sizes, copies and comparisons of fields and questions. -/
import Derived.Test.YtanbccpabgcmaaaGreatDoorT4
set_option linter.unusedVariables false
set_option linter.unusedSimpArgs false
set_option maxRecDepth 100000
namespace Go.Proofs.YtanbccpabgcmaaaGreatDoor.PVE
open PV Query
mutual
/-- How much a question holds. -/
def tot : Query → Nat | .mk _ f t _ _ p => f.length + t.length + totL p
def totL : List Query → Nat
  | [] => 0
  | q :: l => tot q + 1 + totL l
end
theorem tot_eq : ∀ q : Query, tot q = q.field.length + q.text.length + totL q.parts
  | .mk _ f t _ _ p => by rw [tot]; rfl
theorem totL_app : ∀ (l m : List Query), totL (l ++ m) = totL l + totL m
  | [], m => by simp [totL]
  | q :: l, m => by rw [List.cons_append, totL, totL, totL_app l m]; omega
theorem totL_len : ∀ l : List Query, l.length ≤ totL l
  | [] => Nat.le_refl _
  | q :: l => by have := totL_len l; rw [totL, List.length_cons]; omega
theorem totL_mem : ∀ {l : List Query} {q : Query}, q ∈ l → tot q ≤ totL l
  | x :: l, q, h => by
    rw [totL]
    rcases List.mem_cons.1 h with rfl | h
    · omega
    · have := totL_mem h; omega
/-- Its texts and lists are of sizes that exist. -/
inductive Query.Lm : Query → Prop
  | mk (q : Query) (hf : q.field.length ≤ 9223372036854775807) (ht : q.text.length ≤ 9223372036854775807) (hp : q.parts.length ≤ 9223372036854775807) (h : ∀ p ∈ q.parts, p.Lm) : q.Lm
theorem sm_of_tot (q : Query) (h : tot q ≤ 1099511627776) : q.Sm := by
  refine Query.ind (P := fun q => tot q ≤ 1099511627776 → q.Sm) (fun q ih h => ?_) q h
  rw [tot_eq] at h
  have := totL_len q.parts
  exact ⟨q, by omega, by omega, by omega, fun p hp => ih p hp (by have := totL_mem hp; omega)⟩
def szQ (q : Query) (left : Int) : Int := if (tot q : Int) ≤ left then left - tot q else -1
def szQS (l : List Query) (left : Int) : Int := if (totL l : Int) ≤ left then left - totL l else -1
theorem szQueryS_R (l : List Query) (hl : l.length ≤ 9223372036854775807) (h : ∀ q ∈ l, ∀ left : Int, 0 ≤ left → left ≤ 1099511627776 → R S0 38 [.agg [.int .i64 q.kind, .str q.field, .str q.text, .int .i64 q.low, .int .i64 q.high, .sl (q.parts.map pv)], .int .i64 left] = some ⟨[none, none], .int .i64 (szQ q left)⟩)
    (left : Int) (h0 : 0 ≤ left) (h1 : left ≤ 1099511627776) : R S0 91 [.sl (l.map pv), .int .i64 left] = some ⟨[none, none], .int .i64 (szQS l left)⟩ := by
  have hw : IntKind.i64.wrap (left - l.length) = left - l.length := wrap_in (by omega) (by omega)
  have hlt := totL_len l
  by_cases hc : left - (l.length : Int) < 0
  · refine go91 rfl ?_; simp only [go_sem, ↓reduceIte, Nat.reduceAdd, Nat.reduceSub, Nat.reduceEqDiff, Nat.reduceLT, Nat.reduceLeDiff, Nat.reduceMul, Int.reduceNeg, Int.reduceToNat, Int.reduceEq, Int.reduceLT, Int.reduceLE, reduceCtorEq, Tryz.f91, hw, hc]
    rw [szQS, if_neg (by omega)]
  · refine go91 rfl ?_; simp only [go_sem, ↓reduceIte, Nat.reduceAdd, Nat.reduceSub, Nat.reduceEqDiff, Nat.reduceLT, Nat.reduceLeDiff, Nat.reduceMul, Int.reduceNeg, Int.reduceToNat, Int.reduceEq, Int.reduceLT, Int.reduceLE, reduceCtorEq, Tryz.f91, hw, hc]
    refine ends_for l.length (by omega) (fun i (x : Int) => mkSt [(0, .sl (l.map pv)), (1, .int .i64 x), (5, .int .i64 i)] []) (fun i x => 0 ≤ x ∧ x + totL (l.take i) + (l.length - i : Nat) = left) 0 (left - l.length) (by omega) ⟨by omega, by simp [totL]⟩ ?_ ?_
    · rintro i x hi ⟨hx0, hx1⟩ hw ih
      obtain ⟨q, hq, hg, hd⟩ := drop_get hi default
      have hm := List.mem_of_getElem? hq
      have hr := h q hm x hx0 (by omega)
      have hll : l = l.take i ++ q :: l.drop (i + 1) := by rw [← hd, List.take_append_drop]
      have hsum : totL l = totL (l.take i) + (tot q + 1 + totL (l.drop (i + 1))) := by
        conv => lhs; rw [hll]
        rw [totL_app, totL]
      have hdl := totL_len (l.drop (i + 1))
      rw [List.length_drop] at hdl
      simp only [go_sem, ↓reduceIte, Nat.reduceAdd, Nat.reduceSub, Nat.reduceEqDiff, Nat.reduceLT, Nat.reduceLeDiff, Nat.reduceMul, Int.reduceNeg, Int.reduceToNat, Int.reduceEq, Int.reduceLT, Int.reduceLE, reduceCtorEq, hi, hw, hg, hr]
      have htk : l.take (i + 1) = l.take i ++ [q] := by rw [List.take_add_one, hq]; rfl
      refine ⟨fun hneg => ?_, fun hneg => ih _ ⟨by omega, ?_⟩⟩
      · unfold szQ at hneg
        rw [szQS, if_neg]
        split at hneg <;> omega
      · rw [htk, totL_app, totL, totL]
        unfold szQ at hneg ⊢
        split at hneg <;> rename_i hle
        · rw [if_pos hle]; omega
        · omega
    · rintro x ⟨hx0, hx1⟩
      rw [List.take_length] at hx1
      simp only [go_sem, ↓reduceIte, Nat.reduceAdd, Nat.reduceSub, Nat.reduceEqDiff, Nat.reduceLT, Nat.reduceLeDiff, Nat.reduceMul, Int.reduceNeg, Int.reduceToNat, Int.reduceEq, Int.reduceLT, Int.reduceLE, reduceCtorEq]
      rw [szQS, if_pos (by omega)]
      omega
theorem szQuery_R (q : Query) : q.Lm → ∀ left : Int, 0 ≤ left → left ≤ 1099511627776 → R S0 38 [.agg [.int .i64 q.kind, .str q.field, .str q.text, .int .i64 q.low, .int .i64 q.high, .sl (q.parts.map pv)], .int .i64 left] = some ⟨[none, none], .int .i64 (szQ q left)⟩ := by
  refine Query.ind (P := fun q => q.Lm → ∀ left : Int, 0 ≤ left → left ≤ 1099511627776 → R S0 38 [.agg [.int .i64 q.kind, .str q.field, .str q.text, .int .i64 q.low, .int .i64 q.high, .sl (q.parts.map pv)], .int .i64 left] = some ⟨[none, none], .int .i64 (szQ q left)⟩) (fun q ih hq left h0 h1 => ?_) q
  obtain ⟨_, hf, ht, hp, hs⟩ := hq
  have hS := fun left h0 h1 => szQueryS_R q.parts hp (fun p hp left h0 h1 => ih p hp (hs p hp) left h0 h1) left h0 h1
  have ht0 := tot_eq q
  have hw : IntKind.i64.wrap (left - q.field.length) = left - q.field.length := wrap_in (by omega) (by omega)
  by_cases hc : left - (q.field.length : Int) < 0
  · refine go38 rfl ?_; simp only [go_sem, ↓reduceIte, Nat.reduceAdd, Nat.reduceSub, Nat.reduceEqDiff, Nat.reduceLT, Nat.reduceLeDiff, Nat.reduceMul, Int.reduceNeg, Int.reduceToNat, Int.reduceEq, Int.reduceLT, Int.reduceLE, reduceCtorEq, Tryz.f38, hw, hc]
    rw [szQ, if_neg (by omega)]
  have hw2 : IntKind.i64.wrap (left - q.field.length - q.text.length) = left - q.field.length - q.text.length := wrap_in (by omega) (by omega)
  by_cases hc2 : left - (q.field.length : Int) - q.text.length < 0
  · refine go38 rfl ?_; simp only [go_sem, ↓reduceIte, Nat.reduceAdd, Nat.reduceSub, Nat.reduceEqDiff, Nat.reduceLT, Nat.reduceLeDiff, Nat.reduceMul, Int.reduceNeg, Int.reduceToNat, Int.reduceEq, Int.reduceLT, Int.reduceLE, reduceCtorEq, Tryz.f38, hw, hc, hw2, hc2]
    rw [szQ, if_neg (by omega)]
  have hS := hS (left - q.field.length - q.text.length) (by omega) (by omega)
  refine go38 rfl ?_; simp only [go_sem, ↓reduceIte, Nat.reduceAdd, Nat.reduceSub, Nat.reduceEqDiff, Nat.reduceLT, Nat.reduceLeDiff, Nat.reduceMul, Int.reduceNeg, Int.reduceToNat, Int.reduceEq, Int.reduceLT, Int.reduceLE, reduceCtorEq, Tryz.f38, hw, hc, hw2, hc2, hS]
  unfold szQS szQ
  rw [ht0]
  refine ⟨fun hneg => ?_, fun hneg => ?_⟩
  · rw [if_neg]
    split at hneg <;> omega
  · split at hneg <;> rename_i hle
    · rw [if_pos hle, if_pos (by omega)]; omega
    · omega
/-- An empty question. -/
def zeroQ : Query := .mk 0 [] [] 0 0 []
theorem toQueryS_R (l : List Query) (hl : l.length ≤ 1099511627776) (h : ∀ q ∈ l, R S0 41 [.agg [.int .i64 q.kind, .str q.field, .str q.text, .int .i64 q.low, .int .i64 q.high, .sl (q.parts.map pv)]] = some ⟨[none], .agg [.int .i64 q.kind, .str q.field, .str q.text, .int .i64 q.low, .int .i64 q.high, .slo 6 (q.parts.map pvo)]⟩) :
    R S0 94 [.sl (l.map pv)] = some ⟨[none], .slo 6 (l.map pvo)⟩ := by
  have h1 : l.length * 80 ≤ 140737488355328 := by omega
  have e0 : PV.agg [.int .i64 0, .str [], .str [], .int .i64 0, .int .i64 0, .slo 6 []] = zeroQ.pvo := by rw [pvo_eq]; rfl
  have e1 : List.replicate l.length (PV.agg [.int .i64 0, .str [], .str [], .int .i64 0, .int .i64 0, .slo 6 []]) = (List.replicate l.length zeroQ).map pvo := by rw [e0, List.map_replicate]
  refine go94 rfl ?_; simp only [go_sem, ↓reduceIte, Nat.reduceAdd, Nat.reduceSub, Nat.reduceEqDiff, Nat.reduceLT, Nat.reduceLeDiff, Nat.reduceMul, Int.reduceNeg, Int.reduceToNat, Int.reduceEq, Int.reduceLT, Int.reduceLE, reduceCtorEq, Tryz.f94, h1, e1]
  refine ends_for l.length (by omega) (fun i (x : List Query) => mkSt [(0, .sl (l.map pv)), (3, .own 0), (4, .int .i64 i)] [.slo 6 (x.map pvo)]) (fun i x => x = l.take i ++ List.replicate (l.length - i) zeroQ) 0 (List.replicate l.length zeroQ) (by omega) (by simp) ?_ ?_
  · rintro i x hi hI hw ih
    obtain ⟨q, hq, hg, hd⟩ := drop_get hi default
    have hr := h q (List.mem_of_getElem? hq)
    have hxl : x.length = l.length := by rw [hI]; simp; omega
    have hix : i < x.length := by omega
    have hxi : x[i]? = some (x[i]'hix) := List.getElem?_eq_getElem hix
    simp only [go_sem, ↓reduceIte, Nat.reduceAdd, Nat.reduceSub, Nat.reduceEqDiff, Nat.reduceLT, Nat.reduceLeDiff, Nat.reduceMul, Int.reduceNeg, Int.reduceToNat, Int.reduceEq, Int.reduceLT, Int.reduceLE, reduceCtorEq, hi, hw, hg, hr, hix, hxi]
    refine ih _ ?_
    have e2 : l.length - i = (l.length - (i + 1)) + 1 := by omega
    rw [hI, List.set_append_right _ _ (by simp; omega), List.take_add_one, hq, e2, List.replicate_succ]
    simp [Nat.min_eq_left (Nat.le_of_lt hi)]
  · rintro x hI
    simp only [go_sem, ↓reduceIte, Nat.reduceAdd, Nat.reduceSub, Nat.reduceEqDiff, Nat.reduceLT, Nat.reduceLeDiff, Nat.reduceMul, Int.reduceNeg, Int.reduceToNat, Int.reduceEq, Int.reduceLT, Int.reduceLE, reduceCtorEq]
    rw [hI]
    simp
theorem toQuery_R (q : Query) : q.Sm → R S0 41 [.agg [.int .i64 q.kind, .str q.field, .str q.text, .int .i64 q.low, .int .i64 q.high, .sl (q.parts.map pv)]] = some ⟨[none], .agg [.int .i64 q.kind, .str q.field, .str q.text, .int .i64 q.low, .int .i64 q.high, .slo 6 (q.parts.map pvo)]⟩ := by
  refine Query.ind (P := fun q => q.Sm → R S0 41 [.agg [.int .i64 q.kind, .str q.field, .str q.text, .int .i64 q.low, .int .i64 q.high, .sl (q.parts.map pv)]] = some ⟨[none], .agg [.int .i64 q.kind, .str q.field, .str q.text, .int .i64 q.low, .int .i64 q.high, .slo 6 (q.parts.map pvo)]⟩) (fun q ih hq => ?_) q
  obtain ⟨_, hf, ht, hp, hs⟩ := hq
  have hS := toQueryS_R q.parts hp (fun p hp => ih p hp (hs p hp))
  refine go41 rfl ?_; simp only [go_sem, ↓reduceIte, Nat.reduceAdd, Nat.reduceSub, Nat.reduceEqDiff, Nat.reduceLT, Nat.reduceLeDiff, Nat.reduceMul, Int.reduceNeg, Int.reduceToNat, Int.reduceEq, Int.reduceLT, Int.reduceLE, reduceCtorEq, Tryz.f41, hS]
theorem eqQueryS_R (l : List Query) (hl : l.length ≤ 1099511627776) (h : ∀ q ∈ l, R S0 44 [.agg [.int .i64 q.kind, .str q.field, .str q.text, .int .i64 q.low, .int .i64 q.high, .sl (q.parts.map pv)], .agg [.int .i64 q.kind, .str q.field, .str q.text, .int .i64 q.low, .int .i64 q.high, .sl (q.parts.map pv)]] = some ⟨[none, none], .bool true⟩) :
    R S0 97 [.sl (l.map pv), .sl (l.map pv)] = some ⟨[none, none], .bool true⟩ := by
  refine go97 rfl ?_; simp only [go_sem, ↓reduceIte, Nat.reduceAdd, Nat.reduceSub, Nat.reduceEqDiff, Nat.reduceLT, Nat.reduceLeDiff, Nat.reduceMul, Int.reduceNeg, Int.reduceToNat, Int.reduceEq, Int.reduceLT, Int.reduceLE, reduceCtorEq, Tryz.f97]
  refine ends_for l.length (by omega) (fun i _ => mkSt [(0, .sl (l.map pv)), (1, .sl (l.map pv)), (5, .int .i64 i)] []) (fun i _ => True) 0 () (by omega) trivial ?_ ?_
  · rintro i _ hi - hw ih
    obtain ⟨q, hq, hg, hd⟩ := drop_get hi default
    have hr := h q (List.mem_of_getElem? hq)
    simp only [go_sem, ↓reduceIte, Nat.reduceAdd, Nat.reduceSub, Nat.reduceEqDiff, Nat.reduceLT, Nat.reduceLeDiff, Nat.reduceMul, Int.reduceNeg, Int.reduceToNat, Int.reduceEq, Int.reduceLT, Int.reduceLE, reduceCtorEq, hi, hw, hg, hr]
    exact ih () trivial
  · rintro _ -
    simp only [go_sem, ↓reduceIte, Nat.reduceAdd, Nat.reduceSub, Nat.reduceEqDiff, Nat.reduceLT, Nat.reduceLeDiff, Nat.reduceMul, Int.reduceNeg, Int.reduceToNat, Int.reduceEq, Int.reduceLT, Int.reduceLE, reduceCtorEq]
theorem eqQuery_R (q : Query) : q.Sm → R S0 44 [.agg [.int .i64 q.kind, .str q.field, .str q.text, .int .i64 q.low, .int .i64 q.high, .sl (q.parts.map pv)], .agg [.int .i64 q.kind, .str q.field, .str q.text, .int .i64 q.low, .int .i64 q.high, .sl (q.parts.map pv)]] = some ⟨[none, none], .bool true⟩ := by
  refine Query.ind (P := fun q => q.Sm → R S0 44 [.agg [.int .i64 q.kind, .str q.field, .str q.text, .int .i64 q.low, .int .i64 q.high, .sl (q.parts.map pv)], .agg [.int .i64 q.kind, .str q.field, .str q.text, .int .i64 q.low, .int .i64 q.high, .sl (q.parts.map pv)]] = some ⟨[none, none], .bool true⟩) (fun q ih hq => ?_) q
  obtain ⟨_, hf, ht, hp, hs⟩ := hq
  have hS := eqQueryS_R q.parts hp (fun p hp => ih p hp (hs p hp))
  refine go44 rfl ?_; simp only [go_sem, ↓reduceIte, Nat.reduceAdd, Nat.reduceSub, Nat.reduceEqDiff, Nat.reduceLT, Nat.reduceLeDiff, Nat.reduceMul, Int.reduceNeg, Int.reduceToNat, Int.reduceEq, Int.reduceLT, Int.reduceLE, reduceCtorEq, Tryz.f44, hS]
/-! ### Fields -/
def totF : List Field → Nat
  | [] => 0
  | f :: l => f.name.length + 1 + totF l
theorem totF_app : ∀ (l m : List Field), totF (l ++ m) = totF l + totF m
  | [], m => by simp [totF]
  | q :: l, m => by rw [List.cons_append, totF, totF, totF_app l m]; omega
theorem totF_len : ∀ l : List Field, l.length ≤ totF l
  | [] => Nat.le_refl _
  | q :: l => by have := totF_len l; rw [totF, List.length_cons]; omega
theorem totF_mem : ∀ {l : List Field} {q : Field}, q ∈ l → q.name.length ≤ totF l
  | x :: l, q, h => by
    rw [totF]
    rcases List.mem_cons.1 h with rfl | h
    · omega
    · have := totF_mem h; omega
theorem fsm_of_tot {l : List Field} (h : totF l ≤ 1099511627776) : FSm l := ⟨by have := totF_len l; omega, fun f hf => by have := totF_mem hf; omega⟩
def szFS (l : List Field) (left : Int) : Int := if (totF l : Int) ≤ left then left - totF l else -1
@[go_sem] theorem szField_R (f : Field) (hf : f.name.length ≤ 9223372036854775807) (left : Int) (h0 : 0 ≤ left) (h1 : left ≤ 1099511627776) : R S0 89 [.agg [.str f.name, .int .i64 f.kind, .int .i64 f.weight], .int .i64 left] = some ⟨[none, none], .int .i64 (if (f.name.length : Int) ≤ left then left - f.name.length else -1)⟩ := by
  have hw : IntKind.i64.wrap (left - f.name.length) = left - f.name.length := wrap_in (by omega) (by omega)
  refine go89 rfl ?_; simp only [go_sem, ↓reduceIte, Nat.reduceAdd, Nat.reduceSub, Nat.reduceEqDiff, Nat.reduceLT, Nat.reduceLeDiff, Nat.reduceMul, Int.reduceNeg, Int.reduceToNat, Int.reduceEq, Int.reduceLT, Int.reduceLE, reduceCtorEq, Tryz.f89, hw]
  refine ⟨fun h => by rw [if_neg (by omega)], fun h => by rw [if_pos (by omega)]⟩
@[go_sem] theorem szFieldS_R (l : List Field) (hl : l.length ≤ 9223372036854775807) (hn : ∀ f ∈ l, f.name.length ≤ 9223372036854775807) (left : Int) (h0 : 0 ≤ left) (h1 : left ≤ 1099511627776) : R S0 36 [.sl (l.map Field.pv), .int .i64 left] = some ⟨[none, none], .int .i64 (szFS l left)⟩ := by
  have hw : IntKind.i64.wrap (left - l.length) = left - l.length := wrap_in (by omega) (by omega)
  have hlt := totF_len l
  by_cases hc : left - (l.length : Int) < 0
  · refine go36 rfl ?_; simp only [go_sem, ↓reduceIte, Nat.reduceAdd, Nat.reduceSub, Nat.reduceEqDiff, Nat.reduceLT, Nat.reduceLeDiff, Nat.reduceMul, Int.reduceNeg, Int.reduceToNat, Int.reduceEq, Int.reduceLT, Int.reduceLE, reduceCtorEq, Tryz.f36, hw, hc]
    rw [szFS, if_neg (by omega)]
  · refine go36 rfl ?_; simp only [go_sem, ↓reduceIte, Nat.reduceAdd, Nat.reduceSub, Nat.reduceEqDiff, Nat.reduceLT, Nat.reduceLeDiff, Nat.reduceMul, Int.reduceNeg, Int.reduceToNat, Int.reduceEq, Int.reduceLT, Int.reduceLE, reduceCtorEq, Tryz.f36, hw, hc]
    refine ends_for l.length (by omega) (fun i (x : Int) => mkSt [(0, .sl (l.map Field.pv)), (1, .int .i64 x), (5, .int .i64 i)] []) (fun i x => 0 ≤ x ∧ x + totF (l.take i) + (l.length - i : Nat) = left) 0 (left - l.length) (by omega) ⟨by omega, by simp [totF]⟩ ?_ ?_
    · rintro i x hi ⟨hx0, hx1⟩ hw ih
      obtain ⟨q, hq, hg, hd⟩ := drop_get hi default
      have hm := List.mem_of_getElem? hq
      have hqn := hn q hm
      have hxb : x ≤ 1099511627776 := by omega
      have hll : l = l.take i ++ q :: l.drop (i + 1) := by rw [← hd, List.take_append_drop]
      have hsum : totF l = totF (l.take i) + (q.name.length + 1 + totF (l.drop (i + 1))) := by
        conv => lhs; rw [hll]
        rw [totF_app, totF]
      have hdl := totF_len (l.drop (i + 1))
      rw [List.length_drop] at hdl
      have htk : l.take (i + 1) = l.take i ++ [q] := by rw [List.take_add_one, hq]; rfl
      simp only [go_sem, ↓reduceIte, Nat.reduceAdd, Nat.reduceSub, Nat.reduceEqDiff, Nat.reduceLT, Nat.reduceLeDiff, Nat.reduceMul, Int.reduceNeg, Int.reduceToNat, Int.reduceEq, Int.reduceLT, Int.reduceLE, reduceCtorEq, hi, hw, hg, hqn, hx0, hxb]
      refine ⟨fun hneg => ?_, fun hneg => ih _ ⟨by omega, ?_⟩⟩
      · rw [szFS, if_neg]
        split at hneg <;> omega
      · rw [htk, totF_app, totF, totF]
        split at hneg <;> rename_i hle
        · rw [if_pos hle]; omega
        · omega
    · rintro x ⟨hx0, hx1⟩
      rw [List.take_length] at hx1
      simp only [go_sem, ↓reduceIte, Nat.reduceAdd, Nat.reduceSub, Nat.reduceEqDiff, Nat.reduceLT, Nat.reduceLeDiff, Nat.reduceMul, Int.reduceNeg, Int.reduceToNat, Int.reduceEq, Int.reduceLT, Int.reduceLE, reduceCtorEq]
      rw [szFS, if_pos (by omega)]
      omega
@[go_sem] theorem toField_R (f : Field) : R S0 92 [.agg [.str f.name, .int .i64 f.kind, .int .i64 f.weight]] = some ⟨[none], .agg [.str f.name, .int .i64 f.kind, .int .i64 f.weight]⟩ := by
  refine go92 rfl ?_; simp only [go_sem, ↓reduceIte, Nat.reduceAdd, Nat.reduceSub, Nat.reduceEqDiff, Nat.reduceLT, Nat.reduceLeDiff, Nat.reduceMul, Int.reduceNeg, Int.reduceToNat, Int.reduceEq, Int.reduceLT, Int.reduceLE, reduceCtorEq, Tryz.f92]
@[go_sem] theorem toFieldS_R (l : List Field) (hl : l.length ≤ 1099511627776) : R S0 39 [.sl (l.map Field.pv)] = some ⟨[none], .slo 3 (l.map Field.pv)⟩ := by
  have h1 : l.length * 32 ≤ 140737488355328 := by omega
  have e1 : List.replicate l.length (PV.agg [.str [], .int .i64 0, .int .i64 0]) = (List.replicate l.length (Field.mk [] 0 0)).map Field.pv := by rw [List.map_replicate]; rfl
  refine go39 rfl ?_; simp only [go_sem, ↓reduceIte, Nat.reduceAdd, Nat.reduceSub, Nat.reduceEqDiff, Nat.reduceLT, Nat.reduceLeDiff, Nat.reduceMul, Int.reduceNeg, Int.reduceToNat, Int.reduceEq, Int.reduceLT, Int.reduceLE, reduceCtorEq, Tryz.f39, h1, e1]
  refine ends_for l.length (by omega) (fun i (x : List Field) => mkSt [(0, .sl (l.map Field.pv)), (3, .own 0), (4, .int .i64 i)] [.slo 3 (x.map Field.pv)]) (fun i x => x = l.take i ++ List.replicate (l.length - i) (Field.mk [] 0 0)) 0 (List.replicate l.length (Field.mk [] 0 0)) (by omega) (by simp) ?_ ?_
  · rintro i x hi hI hw ih
    obtain ⟨q, hq, hg, hd⟩ := drop_get hi default
    have hxl : x.length = l.length := by rw [hI]; simp; omega
    have hix : i < x.length := by omega
    have hxi : x[i]? = some (x[i]'hix) := List.getElem?_eq_getElem hix
    simp only [go_sem, ↓reduceIte, Nat.reduceAdd, Nat.reduceSub, Nat.reduceEqDiff, Nat.reduceLT, Nat.reduceLeDiff, Nat.reduceMul, Int.reduceNeg, Int.reduceToNat, Int.reduceEq, Int.reduceLT, Int.reduceLE, reduceCtorEq, hi, hw, hg, hix, hxi]
    refine ih _ ?_
    have e2 : l.length - i = (l.length - (i + 1)) + 1 := by omega
    rw [hI, List.set_append_right _ _ (by simp; omega), List.take_add_one, hq, e2, List.replicate_succ]
    simp [Nat.min_eq_left (Nat.le_of_lt hi)]
  · rintro x hI
    simp only [go_sem, ↓reduceIte, Nat.reduceAdd, Nat.reduceSub, Nat.reduceEqDiff, Nat.reduceLT, Nat.reduceLeDiff, Nat.reduceMul, Int.reduceNeg, Int.reduceToNat, Int.reduceEq, Int.reduceLT, Int.reduceLE, reduceCtorEq]
    rw [hI]
    simp
@[go_sem] theorem eqField_R (f : Field) : R S0 95 [.agg [.str f.name, .int .i64 f.kind, .int .i64 f.weight], .agg [.str f.name, .int .i64 f.kind, .int .i64 f.weight]] = some ⟨[none, none], .bool true⟩ := by
  refine go95 rfl ?_; simp only [go_sem, ↓reduceIte, Nat.reduceAdd, Nat.reduceSub, Nat.reduceEqDiff, Nat.reduceLT, Nat.reduceLeDiff, Nat.reduceMul, Int.reduceNeg, Int.reduceToNat, Int.reduceEq, Int.reduceLT, Int.reduceLE, reduceCtorEq, Tryz.f95]
@[go_sem] theorem eqFieldS_R (l : List Field) (hl : l.length ≤ 1099511627776) : R S0 42 [.sl (l.map Field.pv), .sl (l.map Field.pv)] = some ⟨[none, none], .bool true⟩ := by
  refine go42 rfl ?_; simp only [go_sem, ↓reduceIte, Nat.reduceAdd, Nat.reduceSub, Nat.reduceEqDiff, Nat.reduceLT, Nat.reduceLeDiff, Nat.reduceMul, Int.reduceNeg, Int.reduceToNat, Int.reduceEq, Int.reduceLT, Int.reduceLE, reduceCtorEq, Tryz.f42]
  refine ends_for l.length (by omega) (fun i _ => mkSt [(0, .sl (l.map Field.pv)), (1, .sl (l.map Field.pv)), (5, .int .i64 i)] []) (fun i _ => True) 0 () (by omega) trivial ?_ ?_
  · rintro i _ hi - hw ih
    obtain ⟨q, hq, hg, hd⟩ := drop_get hi default
    simp only [go_sem, ↓reduceIte, Nat.reduceAdd, Nat.reduceSub, Nat.reduceEqDiff, Nat.reduceLT, Nat.reduceLeDiff, Nat.reduceMul, Int.reduceNeg, Int.reduceToNat, Int.reduceEq, Int.reduceLT, Int.reduceLE, reduceCtorEq, hi, hw, hg]
    exact ih () trivial
  · rintro _ -
    simp only [go_sem, ↓reduceIte, Nat.reduceAdd, Nat.reduceSub, Nat.reduceEqDiff, Nat.reduceLT, Nat.reduceLeDiff, Nat.reduceMul, Int.reduceNeg, Int.reduceToNat, Int.reduceEq, Int.reduceLT, Int.reduceLE, reduceCtorEq]
end Go.Proofs.YtanbccpabgcmaaaGreatDoor.PVE
