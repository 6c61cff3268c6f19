/- What a question asks of a document: more laws. -/
import Derived.Test.YtanbccpabgcmaaaGreatDoorT21
set_option linter.unusedVariables false
set_option linter.unusedSimpArgs false
set_option maxRecDepth 100000
namespace Go.Proofs.YtanbccpabgcmaaaGreatDoor.PVE
open PV Query
theorem turn_meets (l : List Field) (d : Doc) (dp : Nat) : ∀ q : Query, okQ dp q = true → meetsM l d (turnQ q) = (!meetsM l d q) ∧ fitsI l (turnQ q) = fitsI l q := by
  induction dp with
  | zero => intro q h; cases h
  | succ dp ih =>
    intro q hok
    obtain ⟨e, he, hn, hps⟩ := okQ_node hok
    obtain rfl : dp = e := by omega
    have hm := meetsM_eq l d q
    have hf := fitsI_eq l q
    rw [turnQ_eq]
    rcases node_kinds hn with ⟨k1, k2, k3⟩ | ⟨k1, k3⟩ | ⟨k1, x, k3⟩
    · rw [if_neg (by omega), if_neg (by omega)]
      rw [meetsM_eq, fitsI_eq]
      simp [Query.kind, Query.parts, meetsNot]
    · rw [if_neg (by omega), if_pos k1]
      rw [meetsM_eq, fitsI_eq]
      rw [if_neg (by omega)] at hf
      rcases k1 with k | k
      · rw [if_pos k] at hm
        rw [hm, hf, if_neg (by show ¬ (15 - q.kind = 7); omega), if_pos (by show 15 - q.kind = 8; omega), if_neg (by show ¬ (2 ≤ 15 - q.kind ∧ 15 - q.kind ≤ 6); omega)]
        simp only [Query.parts, List.any_map, List.all_map]
        constructor
        · rw [Bool.eq_iff_iff]
          simp only [List.any_eq_true, Bool.not_eq_true', List.all_eq_false, Function.comp_apply]
          constructor
          · rintro ⟨x, hx, h⟩
            rw [(ih x (hps x hx)).1] at h
            exact ⟨x, hx, by simpa using h⟩
          · rintro ⟨x, hx, h⟩
            exact ⟨x, hx, by rw [(ih x (hps x hx)).1]; simpa using h⟩
        · rw [Bool.eq_iff_iff, List.all_eq_true, List.all_eq_true]
          exact ⟨fun h x hx => by rw [← (ih x (hps x hx)).2]; exact h x hx, fun h x hx => by rw [Function.comp_apply, (ih x (hps x hx)).2]; exact h x hx⟩
      · rw [if_neg (by omega), if_pos k] at hm
        rw [hm, hf, if_pos (by show 15 - q.kind = 7; omega), if_neg (by show ¬ (2 ≤ 15 - q.kind ∧ 15 - q.kind ≤ 6); omega)]
        simp only [Query.parts, List.all_map]
        constructor
        · rw [Bool.eq_iff_iff]
          simp only [List.all_eq_true, Bool.not_eq_true', List.any_eq_false, Function.comp_apply]
          exact ⟨fun h x hx => by have := h x hx; rw [(ih x (hps x hx)).1] at this; simpa using this, fun h x hx => by rw [(ih x (hps x hx)).1]; simpa using h x hx⟩
        · rw [Bool.eq_iff_iff, List.all_eq_true, List.all_eq_true]
          exact ⟨fun h x hx => by rw [← (ih x (hps x hx)).2]; exact h x hx, fun h x hx => by rw [Function.comp_apply, (ih x (hps x hx)).2]; exact h x hx⟩
    · rw [if_pos k1]
      rw [if_neg (by omega), if_neg (by omega), if_pos k1, k3, meetsNot] at hm
      rw [if_neg (by omega), k3] at hf
      rw [hm, hf, k3]
      simp
theorem sdQuery_R (q : Query) : q.Sm → R S0 34 [.agg [.int .i64 q.kind, .str q.field, .str q.text, .int .i64 q.low, .int .i64 q.high, .sl (q.parts.map pv)], .agg [.int .i64 q.kind, .str q.field, .str q.text, .int .i64 q.low, .int .i64 q.high, .sl (q.parts.map pv)]] = some ⟨[none, none], .bool true⟩ := by
  refine Query.ind (P := fun q => q.Sm → R S0 34 [.agg [.int .i64 q.kind, .str q.field, .str q.text, .int .i64 q.low, .int .i64 q.high, .sl (q.parts.map pv)], .agg [.int .i64 q.kind, .str q.field, .str q.text, .int .i64 q.low, .int .i64 q.high, .sl (q.parts.map pv)]] = some ⟨[none, none], .bool true⟩) (fun q ih hq => ?_) q
  obtain ⟨_, hf, ht, hp, hs⟩ := hq
  refine go34 rfl ?_; simp only [go_sem, ↓reduceIte, Nat.reduceAdd, Nat.reduceSub, Nat.reduceEqDiff, Nat.reduceLT, Nat.reduceLeDiff, Nat.reduceMul, Int.reduceNeg, Int.reduceToNat, Int.reduceEq, Int.reduceLT, Int.reduceLE, reduceCtorEq, Tryz.f34]
  refine ends_for q.parts.length (by omega) (fun i _ => mkSt [(2, .addr 0 0 0), (3, .addr 1 0 0), (5, .int .i64 i)] [.pto [.int .i64 q.kind, .str q.field, .str q.text, .int .i64 q.low, .int .i64 q.high, .sl (q.parts.map pv)], .pto [.int .i64 q.kind, .str q.field, .str q.text, .int .i64 q.low, .int .i64 q.high, .sl (q.parts.map pv)]]) (fun i _ => True) 0 () (by omega) trivial ?_ ?_
  · rintro i _ hi - hw ihl
    obtain ⟨x, hx, hg, hd⟩ := drop_get hi default
    have hxm := List.mem_of_getElem? hx
    have ihx := ih x hxm (hs x hxm)
    simp only [go_sem, ↓reduceIte, Nat.reduceAdd, Nat.reduceSub, Nat.reduceEqDiff, Nat.reduceLT, Nat.reduceLeDiff, Nat.reduceMul, Int.reduceNeg, Int.reduceToNat, Int.reduceEq, Int.reduceLT, Int.reduceLE, reduceCtorEq, hi, hw, hg, ihx]
    exact ihl () trivial
  · rintro _ -
    simp only [go_sem, ↓reduceIte, Nat.reduceAdd, Nat.reduceSub, Nat.reduceEqDiff, Nat.reduceLT, Nat.reduceLeDiff, Nat.reduceMul, Int.reduceNeg, Int.reduceToNat, Int.reduceEq, Int.reduceLT, Int.reduceLE, reduceCtorEq]
theorem turnR_sm {q : Query} (hq : q.Sm) : (turnR q).1.Sm := by
  unfold turnR
  split
  · exact turn_sm q hq
  · exact ⟨_, by show 0 ≤ _; omega, by show 0 ≤ _; omega, by show 0 ≤ _; omega, fun p hp => by cases hp⟩
@[go_sem] theorem FnMeetsTurn_R (b : Str) (hb : b.length ≤ 9223372036854775807) : R S0 8 [.sl (b.map bytePV)] = some ⟨[none], .bool true⟩ := by
  by_cases h0 : (1048576 : Int) < b.length
  · refine go8 rfl ?_; simp only [go_sem, ↓reduceIte, Nat.reduceAdd, Nat.reduceSub, Nat.reduceEqDiff, Nat.reduceLT, Nat.reduceLeDiff, Nat.reduceMul, Int.reduceNeg, Int.reduceToNat, Int.reduceEq, Int.reduceLT, Int.reduceLE, reduceCtorEq, Tryz.f8, h0]
  obtain ⟨r, hr, l, d, q, rfl, hl, hdt, hq⟩ := drawMeets_ex b
  have hd := hdt.sm (by omega)
  have hts := turnR_sm hq
  have hsd := sdQuery_R (turnR q).1 hts
  cases c0 : (turnR q).2 with
  | false => refine go8 rfl ?_; simp only [go_sem, ↓reduceIte, Nat.reduceAdd, Nat.reduceSub, Nat.reduceEqDiff, Nat.reduceLT, Nat.reduceLeDiff, Nat.reduceMul, Int.reduceNeg, Int.reduceToNat, Int.reduceEq, Int.reduceLT, Int.reduceLE, reduceCtorEq, Tryz.f8, h0, hr, hl, hd, hq, hts, hsd, c0]
  | true =>
  have ho : okQ 4 q = true ∧ okQ 4 (turnQ q) = true := by
    unfold turnR at c0
    split at c0
    · assumption
    · cases c0
  have ht : turnR q = (turnQ q, true) := by rw [turnR, if_pos ho]
  rw [ht] at hts hsd c0
  simp only at hts hsd c0
  cases c1 : docOk l d with
  | false => refine go8 rfl ?_; simp only [go_sem, ↓reduceIte, Nat.reduceAdd, Nat.reduceSub, Nat.reduceEqDiff, Nat.reduceLT, Nat.reduceLeDiff, Nat.reduceMul, Int.reduceNeg, Int.reduceToNat, Int.reduceEq, Int.reduceLT, Int.reduceLE, reduceCtorEq, Tryz.f8, h0, hr, hl, hd, hq, ht, hts, hsd, c0, c1]
  | true =>
  cases c2 : (fieldsOk l && okQ 4 q && fitsI l q) with
  | false => refine go8 rfl ?_; simp only [go_sem, ↓reduceIte, Nat.reduceAdd, Nat.reduceSub, Nat.reduceEqDiff, Nat.reduceLT, Nat.reduceLeDiff, Nat.reduceMul, Int.reduceNeg, Int.reduceToNat, Int.reduceEq, Int.reduceLT, Int.reduceLE, reduceCtorEq, Tryz.f8, h0, hr, hl, hd, hq, ht, hts, hsd, c0, c1, c2]
  | true =>
  have c3 := c2
  simp only [Bool.and_eq_true] at c3
  obtain ⟨t1, t2⟩ := turn_meets l d 4 q ho.1
  have c4 : (fieldsOk l && okQ 4 (turnQ q) && fitsI l (turnQ q)) = true := by rw [c3.1.1, ho.2, t2, c3.2]; rfl
  have m1 : meetsD l d q = meetsM l d q := by rw [meetsD, c1, c2]; rfl
  have m2 : meetsD l d (turnQ q) = !meetsM l d q := by rw [meetsD, c1, c4, t1]; rfl
  refine go8 rfl ?_; simp only [go_sem, ↓reduceIte, Nat.reduceAdd, Nat.reduceSub, Nat.reduceEqDiff, Nat.reduceLT, Nat.reduceLeDiff, Nat.reduceMul, Int.reduceNeg, Int.reduceToNat, Int.reduceEq, Int.reduceLT, Int.reduceLE, reduceCtorEq, Tryz.f8, h0, hr, hl, hd, hq, ht, hts, hsd, c0, c1, c2, c4, m1, m2]
  cases meetsM l d q <;> rfl
@[go_sem] theorem FnQueryTwice_R (b : Str) (hb : b.length ≤ 9223372036854775807) : R S0 9 [.sl (b.map bytePV)] = some ⟨[none], .bool true⟩ := by
  by_cases h0 : (1048576 : Int) < b.length
  · refine go9 rfl ?_; simp only [go_sem, ↓reduceIte, Nat.reduceAdd, Nat.reduceSub, Nat.reduceEqDiff, Nat.reduceLT, Nat.reduceLeDiff, Nat.reduceMul, Int.reduceNeg, Int.reduceToNat, Int.reduceEq, Int.reduceLT, Int.reduceLE, reduceCtorEq, Tryz.f9, h0]
  obtain ⟨r, hr, l, d, q, rfl, hl, hdt, hq⟩ := drawMeets_ex b
  have hd := hdt.sm (by omega)
  have hts := turnR_sm hq
  have hts2 := turnR_sm hts
  cases c0 : (turnR q).2 with
  | false => refine go9 rfl ?_; simp only [go_sem, ↓reduceIte, Nat.reduceAdd, Nat.reduceSub, Nat.reduceEqDiff, Nat.reduceLT, Nat.reduceLeDiff, Nat.reduceMul, Int.reduceNeg, Int.reduceToNat, Int.reduceEq, Int.reduceLT, Int.reduceLE, reduceCtorEq, Tryz.f9, h0, hr, hl, hd, hq, hts, hts2, c0]
  | true =>
  cases c00 : (turnR (turnR q).1).2 with
  | false => refine go9 rfl ?_; simp only [go_sem, ↓reduceIte, Nat.reduceAdd, Nat.reduceSub, Nat.reduceEqDiff, Nat.reduceLT, Nat.reduceLeDiff, Nat.reduceMul, Int.reduceNeg, Int.reduceToNat, Int.reduceEq, Int.reduceLT, Int.reduceLE, reduceCtorEq, Tryz.f9, h0, hr, hl, hd, hq, hts, hts2, c0, c00]
  | true =>
  cases c2 : (fieldsOk l && okQ 4 q && fitsI l q) with
  | false => refine go9 rfl ?_; simp only [go_sem, ↓reduceIte, Nat.reduceAdd, Nat.reduceSub, Nat.reduceEqDiff, Nat.reduceLT, Nat.reduceLeDiff, Nat.reduceMul, Int.reduceNeg, Int.reduceToNat, Int.reduceEq, Int.reduceLT, Int.reduceLE, reduceCtorEq, Tryz.f9, h0, hr, hl, hd, hq, hts, hts2, c0, c00, c2]
  | true =>
  have ho : okQ 4 q = true ∧ okQ 4 (turnQ q) = true := by
    unfold turnR at c0
    split at c0
    · assumption
    · cases c0
  have ht : turnR q = (turnQ q, true) := by rw [turnR, if_pos ho]
  rw [ht] at hts hts2 c0 c00
  simp only at hts hts2 c0 c00
  have ho2 : okQ 4 (turnQ q) = true ∧ okQ 4 (turnQ (turnQ q)) = true := by
    unfold turnR at c00
    split at c00
    · assumption
    · cases c00
  have ht2 : turnR (turnQ q) = (turnQ (turnQ q), true) := by rw [turnR, if_pos ho2]
  rw [ht2] at hts2 c00
  simp only at hts2 c00
  have c3 := c2
  simp only [Bool.and_eq_true] at c3
  obtain ⟨t1, t2⟩ := turn_meets l d 4 q ho.1
  obtain ⟨t3, t4⟩ := turn_meets l d 4 (turnQ q) ho2.1
  have m2 : meetsD l d (turnQ (turnQ q)) = meetsD l d q := by
    rw [meetsD, meetsD, c2, t3, t1, t4, t2, c3.1.1, ho2.2, c3.2, Bool.not_not]; rfl
  refine go9 rfl ?_; simp only [go_sem, ↓reduceIte, Nat.reduceAdd, Nat.reduceSub, Nat.reduceEqDiff, Nat.reduceLT, Nat.reduceLeDiff, Nat.reduceMul, Int.reduceNeg, Int.reduceToNat, Int.reduceEq, Int.reduceLT, Int.reduceLE, reduceCtorEq, Tryz.f9, h0, hr, hl, hd, hq, ht, hts, ht2, hts2, c0, c00, c2, m2]
/-! ### A document's own numbers and tags -/
theorem inB_self {v a b : Int} (h1 : a ≤ v) (h2 : v ≤ b) : inB v a b = true := by simp [inB, h1, h2]
theorem docOk_name {l : List Field} {d : Doc} {n : Str} (h : docOk l d = true) (ht : (docText d n).2 = true) : nameOk n = true := by
  obtain ⟨c, hc, rfl, _⟩ := docText_cell ht
  simp only [docOk, Bool.and_eq_true, docForm] at h
  exact (formL_text _ _ h.1.2.1.1 c hc).2
theorem tagDoc_what {l : List Field} {d : Doc} {n : Str} (h : tagDoc l d n ≠ []) : docOk l d = true ∧ (docText d n).2 = true ∧ (fieldOf l n).kind = 3 := by
  apply Classical.byContradiction
  intro hc
  exact h (tagDoc_no hc)
theorem tagDoc_names (l : List Field) (d : Doc) (n : Str) : ∀ t ∈ tagDoc l d n, nameOk t = true := by
  intro t ht
  obtain ⟨h1, h2, h3⟩ := tagDoc_what (l := l) (d := d) (n := n) (by intro e; rw [e] at ht; simp at ht)
  have hk := doc_cell h1 h2
  simp only [cellOk, h3] at hk
  have hk : tagsOk (docText d n).1 = true := by simpa using hk
  simp only [tagsOk, Bool.and_eq_true, decide_eq_true_eq] at hk
  rw [tagDoc_yes h1 h2 h3, tagsS, if_pos hk.1] at ht
  have hf := foldAdd (splitB 44 (docText d n).1) [] List.Pairwise.nil
  have := (hf.2 t).1 ht
  exact List.all_eq_true.1 hk.1 t (by simpa using this)
theorem numDoc_what {l : List Field} {d : Doc} {n : Str} (h : (numDoc l d n).2 = true) : docOk l d = true ∧ (docText d n).2 = true ∧ (fieldOf l n).kind = 2 ∧ (numDoc l d n).1 ≤ 999999999 ∧ -999999999 ≤ (numDoc l d n).1 := by
  have hc : docOk l d = true ∧ (docText d n).2 = true ∧ (fieldOf l n).kind = 2 := by
    apply Classical.byContradiction
    intro hc
    rw [numDoc_no hc] at h
    cases h
  obtain ⟨h1, h2, h3⟩ := hc
  have hk := doc_cell h1 h2
  simp only [cellOk, h3] at hk
  rw [num_same] at hk
  have hn : (numS (docText d n).1).2 = true := by
    cases hn : (numS (docText d n).1).2 with
    | true => rfl
    | false => rw [hn] at hk; simp at hk
  obtain ⟨_, k1, k2, _⟩ := num_of hn
  refine ⟨h1, h2, h3, ?_, ?_⟩
  · rw [numDoc_yes h1 h2 h3]; exact k2
  · rw [numDoc_yes h1 h2 h3]; exact k1
theorem meets_num {l : List Field} {d : Doc} {n : Str} (h : (numDoc l d n).2 = true) : meetsD l d (.mk 5 n [] (numDoc l d n).1 (numDoc l d n).1 []) = true := by
  obtain ⟨h1, h2, h3, h4, h5⟩ := numDoc_what h
  have hn := docOk_name h1 h2
  have hfo := (docOk_parts h1).1
  have e1 : okQ 4 (.mk 5 n [] (numDoc l d n).1 (numDoc l d n).1 []) = true := by
    simp [okQ, nodeOk, leafOk, Query.kind, Query.parts, Query.field, Query.text, Query.low, Query.high, hn, inB_self h5 h4]
  have e2 : fitsI l (.mk 5 n [] (numDoc l d n).1 (numDoc l d n).1 []) = true := by
    rw [fitsI_eq]; simp [nodeF, kindF, Query.kind, Query.field, h3]
  rw [meetsD, h1, hfo, e1, e2, meetsM_eq]
  simp [leafM, Query.kind, Query.field, Query.low, Query.high, h, inB_self]
theorem inB_less (v a : Int) : inB v a (v - 1) = false := by
  have h : ¬ v ≤ v - 1 := by omega
  simp [inB, h]
theorem meets_num_less {l : List Field} {d : Doc} {n : Str} {a : Int} : meetsD l d (.mk 5 n [] a ((numDoc l d n).1 - 1) []) = false := by
  rw [meetsD, meetsM_eq]
  simp [leafM, Query.kind, Query.field, Query.low, Query.high, inB_less]
theorem meets_tag {l : List Field} {d : Doc} {n t : Str} (h : t ∈ tagDoc l d n) : meetsD l d (.mk 6 n t 0 0 []) = true := by
  obtain ⟨h1, h2, h3⟩ := tagDoc_what (l := l) (d := d) (n := n) (by intro e; rw [e] at h; simp at h)
  have hn := docOk_name h1 h2
  have ht := tagDoc_names l d n t h
  have hfo := (docOk_parts h1).1
  have e1 : okQ 4 (.mk 6 n t 0 0 []) = true := by
    simp [okQ, nodeOk, leafOk, Query.kind, Query.parts, Query.field, Query.text, Query.low, Query.high, hn, ht]
  have e2 : fitsI l (.mk 6 n t 0 0 []) = true := by
    rw [fitsI_eq]; simp [nodeF, kindF, Query.kind, Query.field, h3]
  rw [meetsD, h1, hfo, e1, e2, meetsM_eq]
  simp [leafM, Query.kind, Query.field, Query.text, h]
theorem sm_mk {k lo hi : Int} {f t : Str} (hf : f.length ≤ 1099511627776) (ht : t.length ≤ 1099511627776) : (Query.mk k f t lo hi []).Sm := ⟨_, hf, ht, by show 0 ≤ _; omega, fun p hp => by cases hp⟩
theorem implMeets_mk (l : List Field) (d : Doc) (k lo hi : Int) (f t : Str) (hl : FSm l) (hd : DSm d) (hf : f.length ≤ 1099511627776) (ht : t.length ≤ 1099511627776) : R S0 28 [.sl (l.map Field.pv), .agg [.str d.key, .sl (d.cells.map Cell.pv)], .agg [.int .i64 k, .str f, .str t, .int .i64 lo, .int .i64 hi, .sl []]] = some ⟨[none, none, none], .bool (meetsD l d (.mk k f t lo hi []))⟩ :=
  implMeets_R l d (.mk k f t lo hi []) hl hd (sm_mk hf ht)
@[go_sem] theorem FnDocMeets_R (b : Str) (hb : b.length ≤ 9223372036854775807) : R S0 6 [.sl (b.map bytePV)] = some ⟨[none], .bool true⟩ := by
  by_cases h : 1048576 < (b.length : Int)
  · refine go6 rfl ?_; simp only [go_sem, ↓reduceIte, Nat.reduceAdd, Nat.reduceSub, Nat.reduceEqDiff, Nat.reduceLT, Nat.reduceLeDiff, Nat.reduceMul, Int.reduceNeg, Int.reduceToNat, Int.reduceEq, Int.reduceLT, Int.reduceLE, reduceCtorEq, Tryz.f6, h]
  obtain ⟨r, hr, l, d, n, rfl, hl, hdt, hn⟩ := drawDocNum_ex b
  have hd := hdt.sm (by omega)
  have hnb : n.length ≤ 1099511627776 := by omega
  have hv : (numDoc l d n).1 ≤ 999999999 ∧ -999999999 ≤ (numDoc l d n).1 := by
    cases hc : (numDoc l d n).2 with
    | true => exact (numDoc_what hc).2.2.2
    | false =>
      have : (numDoc l d n).1 = 0 := by
        by_cases hc2 : docOk l d = true ∧ (docText d n).2 = true ∧ (fieldOf l n).kind = 2
        · rw [numDoc_yes hc2.1 hc2.2.1 hc2.2.2] at hc; cases hc
        · rw [numDoc_no hc2]
      omega
  have hw1 : IntKind.i64.wrap ((numDoc l d n).1 - 1) = (numDoc l d n).1 - 1 := wrap_in (by omega) (by omega)
  have k1 := implMeets_mk l d 5 (numDoc l d n).1 (numDoc l d n).1 n [] hl hd hnb (by simp)
  have k2 := implMeets_mk l d 5 (-999999999) ((numDoc l d n).1 - 1) n [] hl hd hnb (by simp)
  rw [meets_num_less] at k2
  by_cases hc : (numDoc l d n).2 = true
  · rw [meets_num hc] at k1
    by_cases hv2 : -999999999 < (numDoc l d n).1
    all_goals
      refine go6 rfl ?_; simp only [go_sem, ↓reduceIte, Nat.reduceAdd, Nat.reduceSub, Nat.reduceEqDiff, Nat.reduceLT, Nat.reduceLeDiff, Nat.reduceMul, Int.reduceNeg, Int.reduceToNat, Int.reduceEq, Int.reduceLT, Int.reduceLE, reduceCtorEq, Tryz.f6, h, hr, hl, hd, hnb, hc, hw1, k1, k2, hv2]
      refine ends_for d.cells.length (by have := hd.2.1; omega) (fun i _ => mkSt [(3, .sl (l.map Field.pv)), (4, .addr 0 0 0), (10, .int .i64 i)] [.pto [.str d.key, .sl (d.cells.map Cell.pv)]]) (fun i _ => True) 0 () (by omega) trivial ?_ ?_
      · rintro i _ hi - hw ih
        obtain ⟨c, hx, hg, hdr⟩ := drop_get hi default
        have hcn := (hd.2.2 c (List.mem_of_getElem? hx)).1
        have htl := tagDoc_len l d c.name hd
        simp only [go_sem, ↓reduceIte, Nat.reduceAdd, Nat.reduceSub, Nat.reduceEqDiff, Nat.reduceLT, Nat.reduceLeDiff, Nat.reduceMul, Int.reduceNeg, Int.reduceToNat, Int.reduceEq, Int.reduceLT, Int.reduceLE, reduceCtorEq, hi, hw, hx, hg, hl, hd, hcn]
        refine ⟨by decide +kernel, ?_⟩
        refine ends_for (tagDoc l d c.name).length (by omega) (fun k _ => mkSt [(3, .sl (l.map Field.pv)), (4, .addr 0 0 0), (10, .int .i64 i), (11, .own 1), (12, .int .i64 k)] [.pto [.str d.key, .sl (d.cells.map Cell.pv)], .slo 1 ((tagDoc l d c.name).map .str)]) (fun k _ => True) 0 () (by omega) trivial ?_ ?_
        · rintro k _ hk - hwk ihk
          obtain ⟨t, ht, hgt, _⟩ := drop_get hk default
          have htm := List.mem_of_getElem? ht
          have htn := nameOk_len (tagDoc_names l d c.name t htm)
          have k3 := implMeets_mk l d 6 0 0 c.name t hl hd hcn (by omega)
          rw [meets_tag htm] at k3
          simp only [go_sem, ↓reduceIte, Nat.reduceAdd, Nat.reduceSub, Nat.reduceEqDiff, Nat.reduceLT, Nat.reduceLeDiff, Nat.reduceMul, Int.reduceNeg, Int.reduceToNat, Int.reduceEq, Int.reduceLT, Int.reduceLE, reduceCtorEq, hi, hk, hwk, hx, hg, ht, hgt, k3]
          exact ihk () trivial
        · rintro _ -
          simp only [go_sem, ↓reduceIte, Nat.reduceAdd, Nat.reduceSub, Nat.reduceEqDiff, Nat.reduceLT, Nat.reduceLeDiff, Nat.reduceMul, Int.reduceNeg, Int.reduceToNat, Int.reduceEq, Int.reduceLT, Int.reduceLE, reduceCtorEq, hw]
          exact ih () trivial
      · rintro _ -
        simp only [go_sem, ↓reduceIte, Nat.reduceAdd, Nat.reduceSub, Nat.reduceEqDiff, Nat.reduceLT, Nat.reduceLeDiff, Nat.reduceMul, Int.reduceNeg, Int.reduceToNat, Int.reduceEq, Int.reduceLT, Int.reduceLE, reduceCtorEq]
  · have hc : (numDoc l d n).2 = false := by simpa using hc
    refine go6 rfl ?_; simp only [go_sem, ↓reduceIte, Nat.reduceAdd, Nat.reduceSub, Nat.reduceEqDiff, Nat.reduceLT, Nat.reduceLeDiff, Nat.reduceMul, Int.reduceNeg, Int.reduceToNat, Int.reduceEq, Int.reduceLT, Int.reduceLE, reduceCtorEq, Tryz.f6, h, hr, hl, hd, hnb, hc]
    refine ends_for d.cells.length (by have := hd.2.1; omega) (fun i _ => mkSt [(3, .sl (l.map Field.pv)), (4, .addr 0 0 0), (10, .int .i64 i)] [.pto [.str d.key, .sl (d.cells.map Cell.pv)]]) (fun i _ => True) 0 () (by omega) trivial ?_ ?_
    · rintro i _ hi - hw ih
      obtain ⟨c, hx, hg, hdr⟩ := drop_get hi default
      have hcn := (hd.2.2 c (List.mem_of_getElem? hx)).1
      have htl := tagDoc_len l d c.name hd
      simp only [go_sem, ↓reduceIte, Nat.reduceAdd, Nat.reduceSub, Nat.reduceEqDiff, Nat.reduceLT, Nat.reduceLeDiff, Nat.reduceMul, Int.reduceNeg, Int.reduceToNat, Int.reduceEq, Int.reduceLT, Int.reduceLE, reduceCtorEq, hi, hw, hx, hg, hl, hd, hcn]
      refine ⟨by decide +kernel, ?_⟩
      refine ends_for (tagDoc l d c.name).length (by omega) (fun k _ => mkSt [(3, .sl (l.map Field.pv)), (4, .addr 0 0 0), (10, .int .i64 i), (11, .own 1), (12, .int .i64 k)] [.pto [.str d.key, .sl (d.cells.map Cell.pv)], .slo 1 ((tagDoc l d c.name).map .str)]) (fun k _ => True) 0 () (by omega) trivial ?_ ?_
      · rintro k _ hk - hwk ihk
        obtain ⟨t, ht, hgt, _⟩ := drop_get hk default
        have htm := List.mem_of_getElem? ht
        have htn := nameOk_len (tagDoc_names l d c.name t htm)
        have k3 := implMeets_mk l d 6 0 0 c.name t hl hd hcn (by omega)
        rw [meets_tag htm] at k3
        simp only [go_sem, ↓reduceIte, Nat.reduceAdd, Nat.reduceSub, Nat.reduceEqDiff, Nat.reduceLT, Nat.reduceLeDiff, Nat.reduceMul, Int.reduceNeg, Int.reduceToNat, Int.reduceEq, Int.reduceLT, Int.reduceLE, reduceCtorEq, hi, hk, hwk, hx, hg, ht, hgt, k3]
        exact ihk () trivial
      · rintro _ -
        simp only [go_sem, ↓reduceIte, Nat.reduceAdd, Nat.reduceSub, Nat.reduceEqDiff, Nat.reduceLT, Nat.reduceLeDiff, Nat.reduceMul, Int.reduceNeg, Int.reduceToNat, Int.reduceEq, Int.reduceLT, Int.reduceLE, reduceCtorEq, hw]
        exact ih () trivial
    · rintro _ -
      simp only [go_sem, ↓reduceIte, Nat.reduceAdd, Nat.reduceSub, Nat.reduceEqDiff, Nat.reduceLT, Nat.reduceLeDiff, Nat.reduceMul, Int.reduceNeg, Int.reduceToNat, Int.reduceEq, Int.reduceLT, Int.reduceLE, reduceCtorEq]
/-! ### Other cells do not matter -/
def dropC (d : Doc) (i : Nat) : Doc := ⟨d.key, d.cells.take i ++ d.cells.drop (i + 1)⟩
theorem formL_less : ∀ (a : List Cell) (p : Option Str) (c : Cell) (b : List Cell), formL p (a ++ c :: b) = true → formL p (a ++ b) = true
  | [], p, c, b, h => by
    simp only [List.nil_append, formL, Bool.and_eq_true] at h ⊢
    obtain ⟨⟨⟨h1, h2⟩, h3⟩, h4⟩ := h
    cases b with
    | nil => rfl
    | cons e b =>
      simp only [formL, Bool.and_eq_true] at h4 ⊢
      obtain ⟨⟨⟨k1, k2⟩, k3⟩, k4⟩ := h4
      refine ⟨⟨⟨k1, k2⟩, ?_⟩, k4⟩
      cases p with
      | none => rfl
      | some n =>
        simp only [bl_iff] at h3 k3 ⊢
        exact List.lt_trans h3 k3
  | x :: a, p, c, b, h => by
    simp only [List.cons_append, formL, Bool.and_eq_true] at h ⊢
    exact ⟨h.1, formL_less a _ c b h.2⟩
theorem cells_at {d : Doc} {i : Nat} {c : Cell} (h : d.cells[i]? = some c) : d.cells = d.cells.take i ++ c :: d.cells.drop (i + 1) := by
  obtain ⟨hi, rfl⟩ := List.getElem?_eq_some_iff.1 h
  rw [← List.drop_eq_getElem_cons hi, List.take_append_drop]
theorem docOk_less {l : List Field} {d : Doc} {i : Nat} {c : Cell} (h : d.cells[i]? = some c) (hd : docOk l d = true) : docOk l (dropC d i) = true := by
  have hc := cells_at h
  simp only [docOk, docForm, Bool.and_eq_true, decide_eq_true_eq, List.all_eq_true] at hd ⊢
  obtain ⟨⟨h1, ⟨h2, h3⟩, h4⟩, h5⟩ := hd
  refine ⟨⟨h1, ⟨formL_less _ _ c _ (hc ▸ h2), h3⟩, ?_⟩, fun x hx => h5 x ?_⟩
  · show (d.cells.take i ++ d.cells.drop (i + 1)).length ≤ 4
    simp; omega
  · rcases List.mem_append.1 hx with hx | hx
    · exact List.mem_of_mem_take hx
    · exact List.mem_of_mem_drop hx
theorem docText_less {d : Doc} {i : Nat} {c : Cell} {n : Str} (h : d.cells[i]? = some c) (hn : ¬ c.name = n) : docText (dropC d i) n = docText d n := by
  have hc := cells_at h
  have e : d.cells.find? (fun c => decide (c.name = n)) = (d.cells.take i ++ d.cells.drop (i + 1)).find? (fun c => decide (c.name = n)) := by
    conv => lhs; rw [hc]
    rw [List.find?_append, List.find?_append, List.find?_cons_of_neg (by simpa using hn)]
  unfold docText
  rw [e]
  rfl
theorem dropC_sm {d : Doc} (i : Nat) (h : DSm d) : DSm (dropC d i) := by
  obtain ⟨h1, h2, h3⟩ := h
  refine ⟨h1, ?_, fun c hc => h3 c ?_⟩
  · show (d.cells.take i ++ d.cells.drop (i + 1)).length ≤ 1099511627776
    simp; omega
  · rcases List.mem_append.1 hc with hx | hx
    · exact List.mem_of_mem_take hx
    · exact List.mem_of_mem_drop hx
theorem meetsD_less {l : List Field} {d : Doc} {q : Query} {i : Nat} {c : Cell} (h : d.cells[i]? = some c) (hd : docOk l d = true) (hok : okQ 4 q = true) (hf : ¬ q.field = []) (hn : ¬ c.name = q.field) : meetsD l (dropC d i) q = meetsD l d q := by
  have h2 := docOk_less h hd
  have hN : numDoc l (dropC d i) q.field = numDoc l d q.field := by rw [numDoc, numDoc, if_pos hd, if_pos h2, numD, numD, cellT, cellT, docText_less h hn]
  have hT : tagDoc l (dropC d i) q.field = tagDoc l d q.field := by rw [tagDoc, tagDoc, if_pos hd, if_pos h2, tagsD, tagsD, cellT, cellT, docText_less h hn]
  have hz : cellW l q c = 0 := by
    rw [cellW, if_neg]
    simp only [looksAt, Bool.and_eq_true, Bool.or_eq_true, decide_eq_true_eq]
    rintro ⟨_, h⟩
    exact h.elim hf fun e => hn e.symm
  have hW : weightN l (dropC d i) q = weightN l d q := by
    have hc := cells_at h
    unfold weightN
    conv => rhs; rw [hc]
    show ((d.cells.take i ++ d.cells.drop (i + 1)).map (cellW l q)).sum = _
    simp [hz]
  obtain ⟨e, he, hnode, hps⟩ := okQ_node hok
  have hm : meetsM l (dropC d i) q = meetsM l d q := by
    rcases node_kinds hnode with ⟨k1, k2, k3⟩ | ⟨k1, k3⟩ | ⟨k1, x, k3⟩
    · rw [meetsM_eq, meetsM_eq, if_neg (by omega), if_neg (by omega), if_neg (by omega), if_neg (by omega), if_neg (by omega), if_neg (by omega)]
      simp only [leafM, hN, hT, hW]
    · unfold nodeOk at hnode
      rw [if_neg k3] at hnode
      simp only [Bool.and_eq_true, decide_eq_true_eq] at hnode
      exact absurd hnode.1.1.1.2 hf
    · unfold nodeOk at hnode
      rw [if_neg (by rw [k3]; simp)] at hnode
      simp only [Bool.and_eq_true, decide_eq_true_eq] at hnode
      exact absurd hnode.1.1.1.2 hf
  rw [meetsD, meetsD, hd, h2, hm]
@[go_sem] theorem FnDocLess_R (b : Str) (hb : b.length ≤ 9223372036854775807) : R S0 11 [.sl (b.map bytePV)] = some ⟨[none], .bool true⟩ := by
  by_cases h0 : (1048576 : Int) < b.length
  · refine go11 rfl ?_; simp only [go_sem, ↓reduceIte, Nat.reduceAdd, Nat.reduceSub, Nat.reduceEqDiff, Nat.reduceLT, Nat.reduceLeDiff, Nat.reduceMul, Int.reduceNeg, Int.reduceToNat, Int.reduceEq, Int.reduceLT, Int.reduceLE, reduceCtorEq, Tryz.f11, h0]
  obtain ⟨r, hr, l, d, q, rfl, hl, hdt, hq⟩ := drawMeets_ex b
  have hd := hdt.sm (by omega)
  obtain ⟨_, hf, ht, hpl, hs⟩ := id hq
  cases c1 : docOk l d with
  | false => refine go11 rfl ?_; simp only [go_sem, ↓reduceIte, Nat.reduceAdd, Nat.reduceSub, Nat.reduceEqDiff, Nat.reduceLT, Nat.reduceLeDiff, Nat.reduceMul, Int.reduceNeg, Int.reduceToNat, Int.reduceEq, Int.reduceLT, Int.reduceLE, reduceCtorEq, Tryz.f11, h0, hr, hl, hd, hq, c1]
  | true =>
  cases c2 : (fieldsOk l && okQ 4 q && fitsI l q) with
  | false => refine go11 rfl ?_; simp only [go_sem, ↓reduceIte, Nat.reduceAdd, Nat.reduceSub, Nat.reduceEqDiff, Nat.reduceLT, Nat.reduceLeDiff, Nat.reduceMul, Int.reduceNeg, Int.reduceToNat, Int.reduceEq, Int.reduceLT, Int.reduceLE, reduceCtorEq, Tryz.f11, h0, hr, hl, hd, hq, c1, c2]
  | true =>
  by_cases c3 : q.field = []
  · have c3t := eq_true c3
    refine go11 rfl ?_; simp only [go_sem, ↓reduceIte, Nat.reduceAdd, Nat.reduceSub, Nat.reduceEqDiff, Nat.reduceLT, Nat.reduceLeDiff, Nat.reduceMul, Int.reduceNeg, Int.reduceToNat, Int.reduceEq, Int.reduceLT, Int.reduceLE, reduceCtorEq, Tryz.f11, h0, hr, hl, hd, hq, c1, c2, c3t]
  have c4 := c2
  simp only [Bool.and_eq_true] at c4
  refine go11 rfl ?_; simp only [go_sem, ↓reduceIte, Nat.reduceAdd, Nat.reduceSub, Nat.reduceEqDiff, Nat.reduceLT, Nat.reduceLeDiff, Nat.reduceMul, Int.reduceNeg, Int.reduceToNat, Int.reduceEq, Int.reduceLT, Int.reduceLE, reduceCtorEq, Tryz.f11, h0, hr, hl, hd, hq, c1, c2, c3]
  refine ends_for d.cells.length (by have := hd.2.1; omega) (fun i _ => mkSt [(3, .sl (l.map Field.pv)), (4, .addr 0 0 0), (5, .addr 1 0 0), (6, .bool (meetsD l d q)), (7, .int .i64 i)] [.pto [.str d.key, .slo 2 (d.cells.map Cell.pv)], .pto [.int .i64 q.kind, .str q.field, .str q.text, .int .i64 q.low, .int .i64 q.high, .slo 6 (q.parts.map pvo)]]) (fun i _ => True) 0 () (by omega) trivial ?_ ?_
  · rintro i _ hi - hw ih
    obtain ⟨c, hx, hg, hdr⟩ := drop_get hi default
    have hcl := hd.2.1
    have b1 : i * 32 ≤ 140737488355328 := by omega
    have b2 : (i + (d.cells.length - (i + 1))) * 32 ≤ 140737488355328 := by omega
    have b3 : i ≤ d.cells.length := by omega
    have b4 : i + 1 ≤ d.cells.length := by omega
    have b5 : (d.cells.take i).length = i := by simp; omega
    have b6 : (d.cells.drop (i + 1)).take (d.cells.length - (i + 1)) = d.cells.drop (i + 1) := List.take_of_length_le (by simp)
    have b7 : (d.cells.drop (i + 1)).length = d.cells.length - (i + 1) := List.length_drop
    have hdm := dropC_sm i hd
    have k1 := implMeets_R l (dropC d i) q hl hdm hq
    simp only [dropC] at k1
    by_cases hn : c.name = q.field
    · have hnt := eq_true hn
      simp only [go_sem, ↓reduceIte, Nat.reduceAdd, Nat.reduceSub, Nat.reduceEqDiff, Nat.reduceLT, Nat.reduceLeDiff, Nat.reduceMul, Int.reduceNeg, Int.reduceToNat, Int.reduceEq, Int.reduceLT, Int.reduceLE, reduceCtorEq, hi, hw, hx, hg, b1, b2, b3, b4, b5, b6, b7, hnt]
      exact ⟨by decide +kernel, ih () trivial⟩
    · have hml := meetsD_less hx c1 c4.1.2 c3 hn
      simp only [dropC] at hml
      rw [hml] at k1
      simp only [go_sem, ↓reduceIte, Nat.reduceAdd, Nat.reduceSub, Nat.reduceEqDiff, Nat.reduceLT, Nat.reduceLeDiff, Nat.reduceMul, Int.reduceNeg, Int.reduceToNat, Int.reduceEq, Int.reduceLT, Int.reduceLE, reduceCtorEq, hi, hw, hx, hg, b1, b2, b3, b4, b5, b6, b7, hn, k1]
      exact ⟨by decide +kernel, by decide +kernel, ih () trivial⟩
  · rintro _ -
    simp only [go_sem, ↓reduceIte, Nat.reduceAdd, Nat.reduceSub, Nat.reduceEqDiff, Nat.reduceLT, Nat.reduceLeDiff, Nat.reduceMul, Int.reduceNeg, Int.reduceToNat, Int.reduceEq, Int.reduceLT, Int.reduceLE, reduceCtorEq]
end Go.Proofs.YtanbccpabgcmaaaGreatDoor.PVE
