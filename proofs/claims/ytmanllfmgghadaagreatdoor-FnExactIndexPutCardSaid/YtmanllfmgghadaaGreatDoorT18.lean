/- Documents: sizes, copies, equality; the exact law of numbers. -/
import Derived.Test.YtmanllfmgghadaaGreatDoorTA
import Derived.Test.YtmanllfmgghadaaGreatDoorT15
set_option linter.unusedVariables false
set_option linter.unusedSimpArgs false
set_option maxRecDepth 100000
namespace Go.Proofs.YtmanllfmgghadaaGreatDoor.PVE
open PV
def totC : List Cell → Nat
  | [] => 0
  | f :: l => f.name.length + f.text.length + 1 + totC l
theorem totC_app : ∀ (l m : List Cell), totC (l ++ m) = totC l + totC m
  | [], m => by simp [totC]
  | q :: l, m => by rw [List.cons_append, totC, totC, totC_app l m]; omega
theorem totC_len : ∀ l : List Cell, l.length ≤ totC l
  | [] => Nat.le_refl _
  | q :: l => by have := totC_len l; rw [totC, List.length_cons]; omega
theorem totC_mem : ∀ {l : List Cell} {q : Cell}, q ∈ l → q.name.length + q.text.length ≤ totC l
  | x :: l, q, h => by
    rw [totC]
    rcases List.mem_cons.1 h with rfl | h
    · omega
    · have := totC_mem h; omega
def totD (d : Doc) : Nat := d.key.length + totC d.cells
def DLm (d : Doc) : Prop := d.key.length ≤ 9223372036854775807 ∧ d.cells.length ≤ 9223372036854775807 ∧ ∀ c ∈ d.cells, c.name.length ≤ 9223372036854775807 ∧ c.text.length ≤ 9223372036854775807
theorem dsm_of_tot {d : Doc} (h : totD d ≤ 549755813888) : DSm d := by
  unfold totD at h
  have := totC_len d.cells
  exact ⟨by omega, by omega, fun f hf => by have := totC_mem hf; omega⟩
def szCS (l : List Cell) (left : Int) : Int := if (totC l : Int) ≤ left then left - totC l else -1
def szD (d : Doc) (left : Int) : Int := if (totD d : Int) ≤ left then left - totD d else -1
@[go_sem] theorem szCell_R (f : Cell) (hf : f.name.length ≤ 9223372036854775807) (ht : f.text.length ≤ 9223372036854775807) (left : Int) (h0 : 0 ≤ left) (h1 : left ≤ 1099511627776) : R S0 142 [.agg [.str f.name, .str f.text], .int .i64 left] = some ⟨[none, none], .int .i64 (if ((f.name.length + f.text.length : Nat) : Int) ≤ left then left - ((f.name.length + f.text.length : Nat) : Int) else -1)⟩ := by
  have hw : IntKind.i64.wrap (left - f.name.length) = left - f.name.length := wrap_in (by omega) (by omega)
  by_cases c1 : left - (f.name.length : Int) < 0
  · refine go142 rfl ?_; simp only [go_sem, ↓reduceIte, Nat.reduceAdd, Nat.reduceSub, Nat.reduceEqDiff, Nat.reduceLT, Nat.reduceLeDiff, Nat.reduceMul, Int.reduceNeg, Int.reduceToNat, Int.reduceEq, Int.reduceLT, Int.reduceLE, reduceCtorEq, Tryz.f142, hw, c1]
    rw [if_neg (by omega)]
  · have hw2 : IntKind.i64.wrap (left - f.name.length - f.text.length) = left - f.name.length - f.text.length := wrap_in (by omega) (by omega)
    by_cases c2 : left - (f.name.length : Int) - (f.text.length : Int) < 0
    · refine go142 rfl ?_; simp only [go_sem, ↓reduceIte, Nat.reduceAdd, Nat.reduceSub, Nat.reduceEqDiff, Nat.reduceLT, Nat.reduceLeDiff, Nat.reduceMul, Int.reduceNeg, Int.reduceToNat, Int.reduceEq, Int.reduceLT, Int.reduceLE, reduceCtorEq, Tryz.f142, hw, c1, hw2, c2]
      rw [if_neg (by omega)]
    · refine go142 rfl ?_; simp only [go_sem, ↓reduceIte, Nat.reduceAdd, Nat.reduceSub, Nat.reduceEqDiff, Nat.reduceLT, Nat.reduceLeDiff, Nat.reduceMul, Int.reduceNeg, Int.reduceToNat, Int.reduceEq, Int.reduceLT, Int.reduceLE, reduceCtorEq, Tryz.f142, hw, c1, hw2, c2]
      rw [if_pos (by omega)]; omega
@[go_sem] theorem szCellS_R (l : List Cell) (hl : l.length ≤ 9223372036854775807) (hn : ∀ f ∈ l, f.name.length ≤ 9223372036854775807 ∧ f.text.length ≤ 9223372036854775807) (left : Int) (h0 : 0 ≤ left) (h1 : left ≤ 1099511627776) : R S0 90 [.sl (l.map Cell.pv), .int .i64 left] = some ⟨[none, none], .int .i64 (szCS l left)⟩ := by
  have hw : IntKind.i64.wrap (left - l.length) = left - l.length := wrap_in (by omega) (by omega)
  have hlt := totC_len l
  by_cases hc : left - (l.length : Int) < 0
  · refine go90 rfl ?_; simp only [go_sem, ↓reduceIte, Nat.reduceAdd, Nat.reduceSub, Nat.reduceEqDiff, Nat.reduceLT, Nat.reduceLeDiff, Nat.reduceMul, Int.reduceNeg, Int.reduceToNat, Int.reduceEq, Int.reduceLT, Int.reduceLE, reduceCtorEq, Tryz.f90, hw, hc]
    rw [szCS, if_neg (by omega)]
  · refine go90 rfl ?_; simp only [go_sem, ↓reduceIte, Nat.reduceAdd, Nat.reduceSub, Nat.reduceEqDiff, Nat.reduceLT, Nat.reduceLeDiff, Nat.reduceMul, Int.reduceNeg, Int.reduceToNat, Int.reduceEq, Int.reduceLT, Int.reduceLE, reduceCtorEq, Tryz.f90, hw, hc]
    refine ends_for l.length (by omega) (fun i (x : Int) => mkSt [(0, .sl (l.map Cell.pv)), (1, .int .i64 x), (5, .int .i64 i)] []) (fun i x => 0 ≤ x ∧ x + totC (l.take i) + (l.length - i : Nat) = left) 0 (left - l.length) (by omega) ⟨by omega, by simp [totC]⟩ ?_ ?_
    · rintro i x hi ⟨hx0, hx1⟩ hw ih
      obtain ⟨q, hq, hg, hd⟩ := drop_get hi default
      have hm := List.mem_of_getElem? hq
      have hqn := hn q hm
      have hxb : x ≤ 1099511627776 := by omega
      have hll : l = l.take i ++ q :: l.drop (i + 1) := by rw [← hd, List.take_append_drop]
      have hsum : totC l = totC (l.take i) + (q.name.length + q.text.length + 1 + totC (l.drop (i + 1))) := by
        conv => lhs; rw [hll]
        rw [totC_app, totC]
      have hdl := totC_len (l.drop (i + 1))
      rw [List.length_drop] at hdl
      have htk : l.take (i + 1) = l.take i ++ [q] := by rw [List.take_add_one, hq]; rfl
      simp only [go_sem, ↓reduceIte, Nat.reduceAdd, Nat.reduceSub, Nat.reduceEqDiff, Nat.reduceLT, Nat.reduceLeDiff, Nat.reduceMul, Int.reduceNeg, Int.reduceToNat, Int.reduceEq, Int.reduceLT, Int.reduceLE, reduceCtorEq, hi, hw, hg, hqn, hx0, hxb]
      refine ⟨fun hneg => ?_, fun hneg => ih _ ⟨by omega, ?_⟩⟩
      · rw [szCS, if_neg]
        split at hneg <;> omega
      · rw [htk, totC_app, totC, totC]
        split at hneg <;> rename_i hle
        · rw [if_pos hle]; omega
        · omega
    · rintro x ⟨hx0, hx1⟩
      rw [List.take_length] at hx1
      simp only [go_sem, ↓reduceIte, Nat.reduceAdd, Nat.reduceSub, Nat.reduceEqDiff, Nat.reduceLT, Nat.reduceLeDiff, Nat.reduceMul, Int.reduceNeg, Int.reduceToNat, Int.reduceEq, Int.reduceLT, Int.reduceLE, reduceCtorEq]
      rw [szCS, if_pos (by omega)]
      omega
@[go_sem] theorem szDoc_R (d : Doc) (hd : DLm d) (left : Int) (h0 : 0 ≤ left) (h1 : left ≤ 1099511627776) : R S0 34 [.agg [.str d.key, .sl (d.cells.map Cell.pv)], .int .i64 left] = some ⟨[none, none], .int .i64 (szD d left)⟩ := by
  obtain ⟨hk, hl, hn⟩ := hd
  have hw : IntKind.i64.wrap (left - d.key.length) = left - d.key.length := wrap_in (by omega) (by omega)
  by_cases c1 : left - (d.key.length : Int) < 0
  · refine go34 rfl ?_; simp only [go_sem, ↓reduceIte, Nat.reduceAdd, Nat.reduceSub, Nat.reduceEqDiff, Nat.reduceLT, Nat.reduceLeDiff, Nat.reduceMul, Int.reduceNeg, Int.reduceToNat, Int.reduceEq, Int.reduceLT, Int.reduceLE, reduceCtorEq, Tryz.f34, hw, c1]
    rw [szD, totD, if_neg (by omega)]
  · have k0 : 0 ≤ left - (d.key.length : Int) := by omega
    have k1 : left - (d.key.length : Int) ≤ 1099511627776 := by omega
    have s1 := szCellS_R d.cells hl hn (left - d.key.length) k0 k1
    have e : szCS d.cells (left - d.key.length) = szD d left := by
      unfold szCS szD totD
      split
      · rw [if_pos (by omega)]; omega
      · rw [if_neg (by omega)]
    refine go34 rfl ?_; simp only [go_sem, ↓reduceIte, Nat.reduceAdd, Nat.reduceSub, Nat.reduceEqDiff, Nat.reduceLT, Nat.reduceLeDiff, Nat.reduceMul, Int.reduceNeg, Int.reduceToNat, Int.reduceEq, Int.reduceLT, Int.reduceLE, reduceCtorEq, Tryz.f34, hw, c1, s1, e]
    intro h
    unfold szD at h ⊢
    split at h <;> rename_i hh
    · omega
    · rw [if_neg hh]
@[go_sem] theorem toCell_R (f : Cell) : R S0 146 [.agg [.str f.name, .str f.text]] = some ⟨[none], .agg [.str f.name, .str f.text]⟩ := by
  refine go146 rfl ?_; simp only [go_sem, ↓reduceIte, Nat.reduceAdd, Nat.reduceSub, Nat.reduceEqDiff, Nat.reduceLT, Nat.reduceLeDiff, Nat.reduceMul, Int.reduceNeg, Int.reduceToNat, Int.reduceEq, Int.reduceLT, Int.reduceLE, reduceCtorEq, Tryz.f146]
@[go_sem] theorem toCellS_R (l : List Cell) (hl : l.length ≤ 1099511627776) : R S0 93 [.sl (l.map Cell.pv)] = some ⟨[none], .slo 2 (l.map Cell.pv)⟩ := by
  have h1 : l.length * 32 ≤ 140737488355328 := by omega
  have e1 : List.replicate l.length (PV.agg [.str [], .str []]) = (List.replicate l.length (Cell.mk [] [])).map Cell.pv := by rw [List.map_replicate]; rfl
  refine go93 rfl ?_; simp only [go_sem, ↓reduceIte, Nat.reduceAdd, Nat.reduceSub, Nat.reduceEqDiff, Nat.reduceLT, Nat.reduceLeDiff, Nat.reduceMul, Int.reduceNeg, Int.reduceToNat, Int.reduceEq, Int.reduceLT, Int.reduceLE, reduceCtorEq, Tryz.f93, h1, e1]
  refine ends_for l.length (by omega) (fun i (x : List Cell) => mkSt [(0, .sl (l.map Cell.pv)), (3, .own 0), (4, .int .i64 i)] [.slo 2 (x.map Cell.pv)]) (fun i x => x = l.take i ++ List.replicate (l.length - i) (Cell.mk [] [])) 0 (List.replicate l.length (Cell.mk [] [])) (by omega) (by simp) ?_ ?_
  · rintro i x hi hI hw ih
    obtain ⟨q, hq, hg, hd⟩ := drop_get hi default
    have hxl : x.length = l.length := by rw [hI]; simp; omega
    have hix : i < x.length := by omega
    have hxi : x[i]? = some (x[i]'hix) := List.getElem?_eq_getElem hix
    simp only [go_sem, ↓reduceIte, Nat.reduceAdd, Nat.reduceSub, Nat.reduceEqDiff, Nat.reduceLT, Nat.reduceLeDiff, Nat.reduceMul, Int.reduceNeg, Int.reduceToNat, Int.reduceEq, Int.reduceLT, Int.reduceLE, reduceCtorEq, hi, hw, hg, hix, hxi]
    refine ih _ ?_
    have e2 : l.length - i = (l.length - (i + 1)) + 1 := by omega
    rw [hI, List.set_append_right _ _ (by simp; omega), List.take_add_one, hq, e2, List.replicate_succ]
    simp [Nat.min_eq_left (Nat.le_of_lt hi)]
  · rintro x hI
    have hx : x = l := by rw [hI]; simp
    subst hx
    simp only [go_sem, ↓reduceIte, Nat.reduceAdd, Nat.reduceSub, Nat.reduceEqDiff, Nat.reduceLT, Nat.reduceLeDiff, Nat.reduceMul, Int.reduceNeg, Int.reduceToNat, Int.reduceEq, Int.reduceLT, Int.reduceLE, reduceCtorEq]
@[go_sem] theorem toDoc_R (d : Doc) (hl : d.cells.length ≤ 1099511627776) : R S0 36 [.agg [.str d.key, .sl (d.cells.map Cell.pv)]] = some ⟨[none], .agg [.str d.key, .slo 2 (d.cells.map Cell.pv)]⟩ := by
  refine go36 rfl ?_; simp only [go_sem, ↓reduceIte, Nat.reduceAdd, Nat.reduceSub, Nat.reduceEqDiff, Nat.reduceLT, Nat.reduceLeDiff, Nat.reduceMul, Int.reduceNeg, Int.reduceToNat, Int.reduceEq, Int.reduceLT, Int.reduceLE, reduceCtorEq, Tryz.f36, hl]
@[go_sem] theorem eqCell_R (f : Cell) : R S0 151 [.agg [.str f.name, .str f.text], .agg [.str f.name, .str f.text]] = some ⟨[none, none], .bool true⟩ := by
  refine go151 rfl ?_; simp only [go_sem, ↓reduceIte, Nat.reduceAdd, Nat.reduceSub, Nat.reduceEqDiff, Nat.reduceLT, Nat.reduceLeDiff, Nat.reduceMul, Int.reduceNeg, Int.reduceToNat, Int.reduceEq, Int.reduceLT, Int.reduceLE, reduceCtorEq, Tryz.f151]
@[go_sem] theorem eqCellS_R (l : List Cell) (hl : l.length ≤ 1099511627776) : R S0 95 [.sl (l.map Cell.pv), .sl (l.map Cell.pv)] = some ⟨[none, none], .bool true⟩ := by
  refine go95 rfl ?_; simp only [go_sem, ↓reduceIte, Nat.reduceAdd, Nat.reduceSub, Nat.reduceEqDiff, Nat.reduceLT, Nat.reduceLeDiff, Nat.reduceMul, Int.reduceNeg, Int.reduceToNat, Int.reduceEq, Int.reduceLT, Int.reduceLE, reduceCtorEq, Tryz.f95]
  refine ends_for l.length (by omega) (fun i _ => mkSt [(0, .sl (l.map Cell.pv)), (1, .sl (l.map Cell.pv)), (5, .int .i64 i)] []) (fun i _ => True) 0 () (by omega) trivial ?_ ?_
  · rintro i _ hi - hw ih
    obtain ⟨q, hq, hg, hd⟩ := drop_get hi default
    simp only [go_sem, ↓reduceIte, Nat.reduceAdd, Nat.reduceSub, Nat.reduceEqDiff, Nat.reduceLT, Nat.reduceLeDiff, Nat.reduceMul, Int.reduceNeg, Int.reduceToNat, Int.reduceEq, Int.reduceLT, Int.reduceLE, reduceCtorEq, hi, hw, hg]
    exact ih () trivial
  · rintro _ -
    simp only [go_sem, ↓reduceIte, Nat.reduceAdd, Nat.reduceSub, Nat.reduceEqDiff, Nat.reduceLT, Nat.reduceLeDiff, Nat.reduceMul, Int.reduceNeg, Int.reduceToNat, Int.reduceEq, Int.reduceLT, Int.reduceLE, reduceCtorEq]
@[go_sem] theorem eqDoc_R (d : Doc) (hl : d.cells.length ≤ 1099511627776) : R S0 38 [.agg [.str d.key, .sl (d.cells.map Cell.pv)], .agg [.str d.key, .sl (d.cells.map Cell.pv)]] = some ⟨[none, none], .bool true⟩ := by
  refine go38 rfl ?_; simp only [go_sem, ↓reduceIte, Nat.reduceAdd, Nat.reduceSub, Nat.reduceEqDiff, Nat.reduceLT, Nat.reduceLeDiff, Nat.reduceMul, Int.reduceNeg, Int.reduceToNat, Int.reduceEq, Int.reduceLT, Int.reduceLE, reduceCtorEq, Tryz.f38, hl]
end Go.Proofs.YtmanllfmgghadaaGreatDoor.PVE
