/- What a question asks of a document: laws. -/
import Derived.Test.YtanbccpabgcmaaaGreatDoorT19
import Derived.Test.YtanbccpabgcmaaaGreatDoorT18
import Derived.Test.YtanbccpabgcmaaaGreatDoorT16
set_option linter.unusedVariables false
set_option linter.unusedSimpArgs false
set_option maxRecDepth 100000
namespace Go.Proofs.YtanbccpabgcmaaaGreatDoor.PVE
open PV Query
theorem FnExactMeets_R (l : List Field) (d : Doc) (q : Query) (hl : l.length ≤ 9223372036854775807) (hn : ∀ f ∈ l, f.name.length ≤ 9223372036854775807) (hd : DLm d) (hq : q.Lm) : R S0 10 [.sl (l.map Field.pv), .agg [.str d.key, .sl (d.cells.map Cell.pv)], .agg [.int .i64 q.kind, .str q.field, .str q.text, .int .i64 q.low, .int .i64 q.high, .sl (q.parts.map pv)]] = some ⟨[none, none, none], .bool true⟩ := by
  have s1 := szFieldS_R l hl hn 1048576 (by omega) (by omega)
  by_cases c1 : szFS l 1048576 < 0
  · refine go10 rfl ?_; simp only [go_sem, ↓reduceIte, Nat.reduceAdd, Nat.reduceSub, Nat.reduceEqDiff, Nat.reduceLT, Nat.reduceLeDiff, Nat.reduceMul, Int.reduceNeg, Int.reduceToNat, Int.reduceEq, Int.reduceLT, Int.reduceLE, reduceCtorEq, Tryz.f10, s1, c1]
  have t1 : totF l ≤ 1048576 ∧ szFS l 1048576 = 1048576 - totF l := by
    unfold szFS at c1 ⊢
    split at c1 <;> rename_i h
    · rw [if_pos h]; constructor <;> omega
    · omega
  have s2 := szDoc_R d hd (szFS l 1048576) (by omega) (by omega)
  by_cases c2 : szD d (szFS l 1048576) < 0
  · refine go10 rfl ?_; simp only [go_sem, ↓reduceIte, Nat.reduceAdd, Nat.reduceSub, Nat.reduceEqDiff, Nat.reduceLT, Nat.reduceLeDiff, Nat.reduceMul, Int.reduceNeg, Int.reduceToNat, Int.reduceEq, Int.reduceLT, Int.reduceLE, reduceCtorEq, Tryz.f10, s1, c1, s2, c2]
  have t2 : totD d ≤ 1048576 ∧ 0 ≤ szD d (szFS l 1048576) ∧ szD d (szFS l 1048576) ≤ 1048576 := by
    unfold szD at c2 ⊢
    split at c2 <;> rename_i h
    · rw [if_pos h]; omega
    · omega
  have s3 := szQuery_R q hq (szD d (szFS l 1048576)) (by omega) (by omega)
  by_cases c3 : szQ q (szD d (szFS l 1048576)) < 0
  · refine go10 rfl ?_; simp only [go_sem, ↓reduceIte, Nat.reduceAdd, Nat.reduceSub, Nat.reduceEqDiff, Nat.reduceLT, Nat.reduceLeDiff, Nat.reduceMul, Int.reduceNeg, Int.reduceToNat, Int.reduceEq, Int.reduceLT, Int.reduceLE, reduceCtorEq, Tryz.f10, s1, c1, s2, c2, s3, c3]
  have t3 : tot q ≤ 1048576 := by unfold szQ at c3; split at c3 <;> rename_i h <;> omega
  have hs := dsm_of_tot (d := d) (by omega)
  have hf := fsm_of_tot (l := l) (by omega)
  have hqs := sm_of_tot q (by omega)
  have hl2 := hf.1
  have hc2 := hs.2.1
  have k1 := toQuery_R q hqs
  have k2 := eqQuery_R q hqs
  refine go10 rfl ?_; simp only [go_sem, ↓reduceIte, Nat.reduceAdd, Nat.reduceSub, Nat.reduceEqDiff, Nat.reduceLT, Nat.reduceLeDiff, Nat.reduceMul, Int.reduceNeg, Int.reduceToNat, Int.reduceEq, Int.reduceLT, Int.reduceLE, reduceCtorEq, Tryz.f10, s1, c1, s2, c2, s3, c3, k1, k2, hs, hf, hqs, hl2, hc2]
  exact ⟨by decide +kernel, by decide +kernel, by decide +kernel⟩
def DMPost (r : Ans) : Prop := ∃ l : List Field, ∃ d : Doc, ∃ q : Query, r = ⟨[none], .tup [.sl (l.map Field.pv), .agg [.str d.key, .slo 2 (d.cells.map Cell.pv)], .agg [.int .i64 q.kind, .str q.field, .str q.text, .int .i64 q.low, .int .i64 q.high, .slo 6 (q.parts.map pvo)]]⟩ ∧ FSm l ∧ DSt 5 d ∧ q.Sm
theorem drawMeets_ex (b : Str) : ∃ r, R S0 29 [.sl (b.map bytePV)] = some r ∧ DMPost r := by
  have hb : (b.take 2000).length ≤ 2000 := by simp; omega
  obtain ⟨r1, hr1, l, p1, rfl, h1, h2, hl⟩ := anyFields_ex (b.take 2000) 0 (by omega) hb
  obtain ⟨r2, hr2, d, p2, rfl, h3, h4, hd⟩ := anyDoc_ex l hl (b.take 2000) p1 (by omega) hb
  obtain ⟨r3, hr3, hh⟩ := any_ex l (b.take 2000) p2 (by omega) hb
  obtain ⟨q, p3, rfl, h5, h6, hq⟩ := hh.get
  rw [show ((0 : Nat) : Int) = 0 from rfl] at hr1
  refine (fun ⟨r, h, hp⟩ => ⟨r, go29 rfl h, hp⟩ : (∃ r, Ends S0 _ _ r ∧ _) → _) ?_
  simp only [go_sem, ↓reduceIte, Nat.reduceAdd, Nat.reduceSub, Nat.reduceEqDiff, Nat.reduceLT, Nat.reduceLeDiff, Nat.reduceMul, Int.reduceNeg, Int.reduceToNat, Int.reduceEq, Int.reduceLT, Int.reduceLE, reduceCtorEq, Tryz.f29, hr1, hr2, hr3, hb, ex_if, ex_bool, ex_and, ex_eq]
  exact ⟨l, d, q, rfl, hl, hd, hq⟩
def DKPost (r : Ans) : Prop := ∃ l : List Field, ∃ d : Doc, r = ⟨[none], .tup [.sl (l.map Field.pv), .agg [.str d.key, .sl (d.cells.map Cell.pv)]]⟩ ∧ FSm l ∧ DSt 5 d
theorem okQ_mono {e : Nat} : ∀ {q : Query}, okQ e q = true → okQ (e + 1) q = true := by
  induction e with
  | zero => intro q h; cases h
  | succ e ih =>
    intro q h
    simp only [okQ, Bool.and_eq_true, List.all_eq_true] at h
    rw [okQ, h.1, Bool.true_and, List.all_eq_true]
    exact fun x hx => ih (h.2 x hx)
theorem fits_part {l : List Field} {q x : Query} (hok : okQ 4 q = true) (hf : fitsI l q = true) (hx : x ∈ q.parts) : okQ 4 x = true ∧ fitsI l x = true := by
  obtain ⟨e, he, hn, hp⟩ := okQ_node hok
  obtain rfl : e = 3 := by omega
  refine ⟨okQ_mono (hp x hx), ?_⟩
  rw [fitsI_eq] at hf
  rw [if_neg] at hf
  · exact List.all_eq_true.1 hf x hx
  · intro hk
    rw [nodeOk_leaf hn hk] at hx
    simp at hx
@[go_sem] theorem FnMeets_R (b : Str) (hb : b.length ≤ 9223372036854775807) : R S0 7 [.sl (b.map bytePV)] = some ⟨[none], .bool true⟩ := by
  by_cases h0 : (1048576 : Int) < b.length
  · refine go7 rfl ?_; simp only [go_sem, ↓reduceIte, Nat.reduceAdd, Nat.reduceSub, Nat.reduceEqDiff, Nat.reduceLT, Nat.reduceLeDiff, Nat.reduceMul, Int.reduceNeg, Int.reduceToNat, Int.reduceEq, Int.reduceLT, Int.reduceLE, reduceCtorEq, Tryz.f7, h0]
  obtain ⟨r, hr, l, d, q, rfl, hl, hdt, hq⟩ := drawMeets_ex b
  have hd := hdt.sm (by omega)
  obtain ⟨_, hf, ht, hpl, hs⟩ := id hq
  cases c1 : docOk l d with
  | false => refine go7 rfl ?_; simp only [go_sem, ↓reduceIte, Nat.reduceAdd, Nat.reduceSub, Nat.reduceEqDiff, Nat.reduceLT, Nat.reduceLeDiff, Nat.reduceMul, Int.reduceNeg, Int.reduceToNat, Int.reduceEq, Int.reduceLT, Int.reduceLE, reduceCtorEq, Tryz.f7, h0, hr, hl, hd, hq, c1]
  | true =>
  cases c2 : (fieldsOk l && okQ 4 q && fitsI l q) with
  | false => refine go7 rfl ?_; simp only [go_sem, ↓reduceIte, Nat.reduceAdd, Nat.reduceSub, Nat.reduceEqDiff, Nat.reduceLT, Nat.reduceLeDiff, Nat.reduceMul, Int.reduceNeg, Int.reduceToNat, Int.reduceEq, Int.reduceLT, Int.reduceLE, reduceCtorEq, Tryz.f7, h0, hr, hl, hd, hq, c1, c2]
  | true =>
  by_cases c3 : (q.parts.length : Int) = 0
  · refine go7 rfl ?_; simp only [go_sem, ↓reduceIte, Nat.reduceAdd, Nat.reduceSub, Nat.reduceEqDiff, Nat.reduceLT, Nat.reduceLeDiff, Nat.reduceMul, Int.reduceNeg, Int.reduceToNat, Int.reduceEq, Int.reduceLT, Int.reduceLE, reduceCtorEq, Tryz.f7, h0, hr, hl, hd, hq, c1, c2, c3]
  have hm : meetsD l d q = meetsM l d q := by rw [meetsD, c1, c2]; rfl
  simp only [Bool.and_eq_true] at c2
  obtain ⟨⟨c4, c5⟩, c6⟩ := c2
  have hpm : ∀ x ∈ q.parts, meetsD l d x = meetsM l d x := fun x hx => by
    obtain ⟨k1, k2⟩ := fits_part c5 c6 hx
    rw [meetsD, c1, c4, k1, k2]; rfl
  refine go7 rfl ?_; simp only [go_sem, ↓reduceIte, Nat.reduceAdd, Nat.reduceSub, Nat.reduceEqDiff, Nat.reduceLT, Nat.reduceLeDiff, Nat.reduceMul, Int.reduceNeg, Int.reduceToNat, Int.reduceEq, Int.reduceLT, Int.reduceLE, reduceCtorEq, Tryz.f7, h0, hr, hl, hd, hq, c1, c4, c5, c6, c3, hm]
  refine ends_for q.parts.length (by omega) (fun i (x : Bool × Bool) => mkSt [(3, .sl (l.map Field.pv)), (4, .addr 0 0 0), (5, .addr 1 0 0), (6, .bool (meetsM l d q)), (7, .bool x.1), (8, .bool x.2), (9, .int .i64 i)] [.pto [.str d.key, .slo 2 (d.cells.map Cell.pv)], .pto [.int .i64 q.kind, .str q.field, .str q.text, .int .i64 q.low, .int .i64 q.high, .slo 6 (q.parts.map pvo)]]) (fun i x => x.1 = (q.parts.take i).all (meetsM l d) ∧ x.2 = (q.parts.take i).any (meetsM l d)) 0 (true, false) (by omega) ⟨rfl, rfl⟩ ?_ ?_
  · rintro i ⟨x1, x2⟩ hi ⟨i1, i2⟩ hw ih
    simp only at i1 i2
    obtain ⟨x, hx, hg, hdr⟩ := drop_get hi default
    have hm1 := List.mem_of_getElem? hx
    have hxs := hs x hm1
    have hxm := hpm x hm1
    have hse := set_same hx
    have htk : q.parts.take (i + 1) = q.parts.take i ++ [x] := by rw [List.take_add_one, hx]; rfl
    simp only [go_sem, ↓reduceIte, Nat.reduceAdd, Nat.reduceSub, Nat.reduceEqDiff, Nat.reduceLT, Nat.reduceLeDiff, Nat.reduceMul, Int.reduceNeg, Int.reduceToNat, Int.reduceEq, Int.reduceLT, Int.reduceLE, reduceCtorEq, hi, hw, hx, hg, hl, hd, hxs, hxm, hse]
    have hnext := ih (x1 && meetsM l d x, x2 || meetsM l d x) ⟨by rw [htk, List.all_append, i1]; simp, by rw [htk, List.any_append, i2]; simp⟩
    refine ⟨by decide +kernel, ?_⟩
    clear ih i1 i2
    cases x1 <;> cases x2 <;> cases hb : meetsM l d x <;> simp_all
  · rintro ⟨x1, x2⟩ ⟨i1, i2⟩
    simp only [List.take_length] at i1 i2
    have hfin := meetsM_eq l d q
    obtain ⟨e, he, hn, hps⟩ := okQ_node c5
    have hne : q.parts ≠ [] := fun e => c3 (by rw [e]; rfl)
    rcases node_kinds hn with ⟨k1, k2, k3⟩ | ⟨k1, k3⟩ | ⟨k1, x, k3⟩
    · exact absurd k3 hne
    · rcases k1 with k | k
      · rw [if_pos k, ← i1] at hfin
        simp only [go_sem, ↓reduceIte, Nat.reduceAdd, Nat.reduceSub, Nat.reduceEqDiff, Nat.reduceLT, Nat.reduceLeDiff, Nat.reduceMul, Int.reduceNeg, Int.reduceToNat, Int.reduceEq, Int.reduceLT, Int.reduceLE, reduceCtorEq, k, hfin]
      · have k7 : ¬ q.kind = 7 := by omega
        rw [if_neg k7, if_pos k, ← i2] at hfin
        simp only [go_sem, ↓reduceIte, Nat.reduceAdd, Nat.reduceSub, Nat.reduceEqDiff, Nat.reduceLT, Nat.reduceLeDiff, Nat.reduceMul, Int.reduceNeg, Int.reduceToNat, Int.reduceEq, Int.reduceLT, Int.reduceLE, reduceCtorEq, k, hfin]
    · have k7 : ¬ q.kind = 7 := by omega
      have k8 : ¬ q.kind = 8 := by omega
      rw [if_neg k7, if_neg k8, if_pos k1, k3, meetsNot] at hfin
      have e1 : x1 = meetsM l d x := by rw [i1, k3]; simp
      simp only [go_sem, ↓reduceIte, Nat.reduceAdd, Nat.reduceSub, Nat.reduceEqDiff, Nat.reduceLT, Nat.reduceLeDiff, Nat.reduceMul, Int.reduceNeg, Int.reduceToNat, Int.reduceEq, Int.reduceLT, Int.reduceLE, reduceCtorEq, k7, k8, hfin, e1]
end Go.Proofs.YtanbccpabgcmaaaGreatDoor.PVE
