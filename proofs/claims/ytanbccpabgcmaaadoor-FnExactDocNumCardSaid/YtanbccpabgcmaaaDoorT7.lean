/- Sizes, copies and comparisons of fields and questions. -/
import Derived.Test.YtanbccpabgcmaaaDoorT5
set_option linter.unusedVariables false
set_option linter.unusedSimpArgs false
set_option maxRecDepth 100000
namespace Go.Proofs.YtanbccpabgcmaaaDoor.PVE
open PV Query
mutual
/-- How much a question holds. -/
def tot : Query → Nat | .mk _ f t _ _ p => f.length + t.length + totL p
def totL : List Query → Nat
  | [] => 0
  | q :: l => tot q + 1 + totL l
end
theorem tot_eq : ∀ q : Query, tot q = q.field.length + q.text.length + totL q.parts
  | .mk _ f t _ _ p => by rw [tot]; rfl
theorem totL_app : ∀ (l m : List Query), totL (l ++ m) = totL l + totL m
  | [], m => by simp [totL]
  | q :: l, m => by rw [List.cons_append, totL, totL, totL_app l m]; omega
theorem totL_len : ∀ l : List Query, l.length ≤ totL l
  | [] => Nat.le_refl _
  | q :: l => by have := totL_len l; rw [totL, List.length_cons]; omega
theorem totL_mem : ∀ {l : List Query} {q : Query}, q ∈ l → tot q ≤ totL l
  | x :: l, q, h => by
    rw [totL]
    rcases List.mem_cons.1 h with rfl | h
    · omega
    · have := totL_mem h; omega
/-- Its texts and lists are of sizes that exist. -/
inductive Query.Lm : Query → Prop
  | mk (q : Query) (hf : q.field.length ≤ 9223372036854775807) (ht : q.text.length ≤ 9223372036854775807) (hp : q.parts.length ≤ 9223372036854775807) (h : ∀ p ∈ q.parts, p.Lm) : q.Lm
theorem sm_of_tot (q : Query) (h : tot q ≤ 1099511627776) : q.Sm := by
  refine Query.ind (P := fun q => tot q ≤ 1099511627776 → q.Sm) (fun q ih h => ?_) q h
  rw [tot_eq] at h
  have := totL_len q.parts
  exact ⟨q, by omega, by omega, by omega, fun p hp => ih p hp (by have := totL_mem hp; omega)⟩
def szQ (q : Query) (left : Int) : Int := if (tot q : Int) ≤ left then left - tot q else -1
def szQS (l : List Query) (left : Int) : Int := if (totL l : Int) ≤ left then left - totL l else -1
/-- An empty question. -/
def zeroQ : Query := .mk 0 [] [] 0 0 []
/-! ### Fields -/
def totF : List Field → Nat
  | [] => 0
  | f :: l => f.name.length + 1 + totF l
theorem totF_app : ∀ (l m : List Field), totF (l ++ m) = totF l + totF m
  | [], m => by simp [totF]
  | q :: l, m => by rw [List.cons_append, totF, totF, totF_app l m]; omega
theorem totF_len : ∀ l : List Field, l.length ≤ totF l
  | [] => Nat.le_refl _
  | q :: l => by have := totF_len l; rw [totF, List.length_cons]; omega
theorem totF_mem : ∀ {l : List Field} {q : Field}, q ∈ l → q.name.length ≤ totF l
  | x :: l, q, h => by
    rw [totF]
    rcases List.mem_cons.1 h with rfl | h
    · omega
    · have := totF_mem h; omega
theorem fsm_of_tot {l : List Field} (h : totF l ≤ 1099511627776) : FSm l := ⟨by have := totF_len l; omega, fun f hf => by have := totF_mem hf; omega⟩
def szFS (l : List Field) (left : Int) : Int := if (totF l : Int) ≤ left then left - totF l else -1
@[go_sem] theorem szField_R (f : Field) (hf : f.name.length ≤ 9223372036854775807) (left : Int) (h0 : 0 ≤ left) (h1 : left ≤ 1099511627776) : R S0 12 [.agg [.str f.name, .int .i64 f.kind, .int .i64 f.weight], .int .i64 left] = some ⟨[none, none], .int .i64 (if (f.name.length : Int) ≤ left then left - f.name.length else -1)⟩ := by
  have hw : IntKind.i64.wrap (left - f.name.length) = left - f.name.length := wrap_in (by omega) (by omega)
  refine go12 rfl ?_; simp only [go_sem, ↓reduceIte, Nat.reduceAdd, Nat.reduceSub, Nat.reduceEqDiff, Nat.reduceLT, Nat.reduceLeDiff, Nat.reduceMul, Int.reduceNeg, Int.reduceToNat, Int.reduceEq, Int.reduceLT, Int.reduceLE, reduceCtorEq, Tryd.f12, hw]
  refine ⟨fun h => by rw [if_neg (by omega)], fun h => by rw [if_pos (by omega)]⟩
@[go_sem] theorem szFieldS_R (l : List Field) (hl : l.length ≤ 9223372036854775807) (hn : ∀ f ∈ l, f.name.length ≤ 9223372036854775807) (left : Int) (h0 : 0 ≤ left) (h1 : left ≤ 1099511627776) : R S0 4 [.sl (l.map Field.pv), .int .i64 left] = some ⟨[none, none], .int .i64 (szFS l left)⟩ := by
  have hw : IntKind.i64.wrap (left - l.length) = left - l.length := wrap_in (by omega) (by omega)
  have hlt := totF_len l
  by_cases hc : left - (l.length : Int) < 0
  · refine go4 rfl ?_; simp only [go_sem, ↓reduceIte, Nat.reduceAdd, Nat.reduceSub, Nat.reduceEqDiff, Nat.reduceLT, Nat.reduceLeDiff, Nat.reduceMul, Int.reduceNeg, Int.reduceToNat, Int.reduceEq, Int.reduceLT, Int.reduceLE, reduceCtorEq, Tryd.f4, hw, hc]
    rw [szFS, if_neg (by omega)]
  · refine go4 rfl ?_; simp only [go_sem, ↓reduceIte, Nat.reduceAdd, Nat.reduceSub, Nat.reduceEqDiff, Nat.reduceLT, Nat.reduceLeDiff, Nat.reduceMul, Int.reduceNeg, Int.reduceToNat, Int.reduceEq, Int.reduceLT, Int.reduceLE, reduceCtorEq, Tryd.f4, hw, hc]
    refine ends_for l.length (by omega) (fun i (x : Int) => mkSt [(0, .sl (l.map Field.pv)), (1, .int .i64 x), (5, .int .i64 i)] []) (fun i x => 0 ≤ x ∧ x + totF (l.take i) + (l.length - i : Nat) = left) 0 (left - l.length) (by omega) ⟨by omega, by simp [totF]⟩ ?_ ?_
    · rintro i x hi ⟨hx0, hx1⟩ hw ih
      obtain ⟨q, hq, hg, hd⟩ := drop_get hi default
      have hm := List.mem_of_getElem? hq
      have hqn := hn q hm
      have hxb : x ≤ 1099511627776 := by omega
      have hll : l = l.take i ++ q :: l.drop (i + 1) := by rw [← hd, List.take_append_drop]
      have hsum : totF l = totF (l.take i) + (q.name.length + 1 + totF (l.drop (i + 1))) := by
        conv => lhs; rw [hll]
        rw [totF_app, totF]
      have hdl := totF_len (l.drop (i + 1))
      rw [List.length_drop] at hdl
      have htk : l.take (i + 1) = l.take i ++ [q] := by rw [List.take_add_one, hq]; rfl
      simp only [go_sem, ↓reduceIte, Nat.reduceAdd, Nat.reduceSub, Nat.reduceEqDiff, Nat.reduceLT, Nat.reduceLeDiff, Nat.reduceMul, Int.reduceNeg, Int.reduceToNat, Int.reduceEq, Int.reduceLT, Int.reduceLE, reduceCtorEq, hi, hw, hg, hqn, hx0, hxb]
      refine ⟨fun hneg => ?_, fun hneg => ih _ ⟨by omega, ?_⟩⟩
      · rw [szFS, if_neg]
        split at hneg <;> omega
      · rw [htk, totF_app, totF, totF]
        split at hneg <;> rename_i hle
        · rw [if_pos hle]; omega
        · omega
    · rintro x ⟨hx0, hx1⟩
      rw [List.take_length] at hx1
      simp only [go_sem, ↓reduceIte, Nat.reduceAdd, Nat.reduceSub, Nat.reduceEqDiff, Nat.reduceLT, Nat.reduceLeDiff, Nat.reduceMul, Int.reduceNeg, Int.reduceToNat, Int.reduceEq, Int.reduceLT, Int.reduceLE, reduceCtorEq]
      rw [szFS, if_pos (by omega)]
      omega
@[go_sem] theorem toField_R (f : Field) : R S0 18 [.agg [.str f.name, .int .i64 f.kind, .int .i64 f.weight]] = some ⟨[none], .agg [.str f.name, .int .i64 f.kind, .int .i64 f.weight]⟩ := by
  refine go18 rfl ?_; simp only [go_sem, ↓reduceIte, Nat.reduceAdd, Nat.reduceSub, Nat.reduceEqDiff, Nat.reduceLT, Nat.reduceLeDiff, Nat.reduceMul, Int.reduceNeg, Int.reduceToNat, Int.reduceEq, Int.reduceLT, Int.reduceLE, reduceCtorEq, Tryd.f18]
@[go_sem] theorem toFieldS_R (l : List Field) (hl : l.length ≤ 1099511627776) : R S0 7 [.sl (l.map Field.pv)] = some ⟨[none], .slo 3 (l.map Field.pv)⟩ := by
  have h1 : l.length * 32 ≤ 140737488355328 := by omega
  have e1 : List.replicate l.length (PV.agg [.str [], .int .i64 0, .int .i64 0]) = (List.replicate l.length (Field.mk [] 0 0)).map Field.pv := by rw [List.map_replicate]; rfl
  refine go7 rfl ?_; simp only [go_sem, ↓reduceIte, Nat.reduceAdd, Nat.reduceSub, Nat.reduceEqDiff, Nat.reduceLT, Nat.reduceLeDiff, Nat.reduceMul, Int.reduceNeg, Int.reduceToNat, Int.reduceEq, Int.reduceLT, Int.reduceLE, reduceCtorEq, Tryd.f7, h1, e1]
  refine ends_for l.length (by omega) (fun i (x : List Field) => mkSt [(0, .sl (l.map Field.pv)), (3, .own 0), (4, .int .i64 i)] [.slo 3 (x.map Field.pv)]) (fun i x => x = l.take i ++ List.replicate (l.length - i) (Field.mk [] 0 0)) 0 (List.replicate l.length (Field.mk [] 0 0)) (by omega) (by simp) ?_ ?_
  · rintro i x hi hI hw ih
    obtain ⟨q, hq, hg, hd⟩ := drop_get hi default
    have hxl : x.length = l.length := by rw [hI]; simp; omega
    have hix : i < x.length := by omega
    have hxi : x[i]? = some (x[i]'hix) := List.getElem?_eq_getElem hix
    simp only [go_sem, ↓reduceIte, Nat.reduceAdd, Nat.reduceSub, Nat.reduceEqDiff, Nat.reduceLT, Nat.reduceLeDiff, Nat.reduceMul, Int.reduceNeg, Int.reduceToNat, Int.reduceEq, Int.reduceLT, Int.reduceLE, reduceCtorEq, hi, hw, hg, hix, hxi]
    refine ih _ ?_
    have e2 : l.length - i = (l.length - (i + 1)) + 1 := by omega
    rw [hI, List.set_append_right _ _ (by simp; omega), List.take_add_one, hq, e2, List.replicate_succ]
    simp [Nat.min_eq_left (Nat.le_of_lt hi)]
  · rintro x hI
    simp only [go_sem, ↓reduceIte, Nat.reduceAdd, Nat.reduceSub, Nat.reduceEqDiff, Nat.reduceLT, Nat.reduceLeDiff, Nat.reduceMul, Int.reduceNeg, Int.reduceToNat, Int.reduceEq, Int.reduceLT, Int.reduceLE, reduceCtorEq]
    rw [hI]
    simp
@[go_sem] theorem eqField_R (f : Field) : R S0 22 [.agg [.str f.name, .int .i64 f.kind, .int .i64 f.weight], .agg [.str f.name, .int .i64 f.kind, .int .i64 f.weight]] = some ⟨[none, none], .bool true⟩ := by
  refine go22 rfl ?_; simp only [go_sem, ↓reduceIte, Nat.reduceAdd, Nat.reduceSub, Nat.reduceEqDiff, Nat.reduceLT, Nat.reduceLeDiff, Nat.reduceMul, Int.reduceNeg, Int.reduceToNat, Int.reduceEq, Int.reduceLT, Int.reduceLE, reduceCtorEq, Tryd.f22]
@[go_sem] theorem eqFieldS_R (l : List Field) (hl : l.length ≤ 1099511627776) : R S0 10 [.sl (l.map Field.pv), .sl (l.map Field.pv)] = some ⟨[none, none], .bool true⟩ := by
  refine go10 rfl ?_; simp only [go_sem, ↓reduceIte, Nat.reduceAdd, Nat.reduceSub, Nat.reduceEqDiff, Nat.reduceLT, Nat.reduceLeDiff, Nat.reduceMul, Int.reduceNeg, Int.reduceToNat, Int.reduceEq, Int.reduceLT, Int.reduceLE, reduceCtorEq, Tryd.f10]
  refine ends_for l.length (by omega) (fun i _ => mkSt [(0, .sl (l.map Field.pv)), (1, .sl (l.map Field.pv)), (5, .int .i64 i)] []) (fun i _ => True) 0 () (by omega) trivial ?_ ?_
  · rintro i _ hi - hw ih
    obtain ⟨q, hq, hg, hd⟩ := drop_get hi default
    simp only [go_sem, ↓reduceIte, Nat.reduceAdd, Nat.reduceSub, Nat.reduceEqDiff, Nat.reduceLT, Nat.reduceLeDiff, Nat.reduceMul, Int.reduceNeg, Int.reduceToNat, Int.reduceEq, Int.reduceLT, Int.reduceLE, reduceCtorEq, hi, hw, hg]
    exact ih () trivial
  · rintro _ -
    simp only [go_sem, ↓reduceIte, Nat.reduceAdd, Nat.reduceSub, Nat.reduceEqDiff, Nat.reduceLT, Nat.reduceLeDiff, Nat.reduceMul, Int.reduceNeg, Int.reduceToNat, Int.reduceEq, Int.reduceLT, Int.reduceLE, reduceCtorEq]
end Go.Proofs.YtanbccpabgcmaaaDoor.PVE
