/- Where a word is: both sides; the law of words that are found. -/
import Derived.Test.YtgnggcpcijcahaaGreatDoorT55
set_option linter.unusedVariables false
set_option linter.unusedSimpArgs false
set_option maxRecDepth 100000
namespace Go.Proofs.YtgnggcpcijcahaaGreatDoor.PVE
open PV Query
@[go_sem] theorem Post.snocP (l : List Post) (d : Int) (a : List Int) : l.map Post.pv ++ [.agg [.int .i64 d, .slo 1 (a.map (.int .i64))]] = (l ++ [Post.mk d a]).map Post.pv := by simp [Post.pv]
theorem postsF_succ {ents : List Entry} {f t : Str} {i : Nat} {x : Entry} (hx : ents[i]? = some x) : postsF (ents.take (i + 1)) f t = postsF (ents.take i) f t ++ (if entEq f t x = true then x.posts else []) := by
  rw [postsF, List.take_add_one, hx, List.filter_append, List.flatMap_append, postsF]
  congr 1
  cases h : entEq f t x <;> simp [h]
theorem postsF_before {ents : List Entry} (hd : DistE ents) {f t : Str} {i : Nat} {x : Entry} (hx : ents[i]? = some x) (h : entEq f t x = true) : postsF (ents.take i) f t = [] := by
  have : (ents.take i).filter (entEq f t) = [] := by
    rw [List.filter_eq_nil_iff]
    intro e he hc
    have hi : i < ents.length := (List.getElem?_eq_some_iff.1 hx).1
    obtain ⟨j, hj, rfl⟩ := List.getElem_of_mem he
    have hj2 : j < i := by simp only [List.length_take] at hj; omega
    have := (List.pairwise_iff_getElem.1 hd) j i (by omega) hi hj2
    rw [List.getElem?_eq_getElem hi] at hx
    obtain rfl := Option.some.inj hx
    rw [List.getElem_take] at hc
    simp only [entEq, Bool.and_eq_true, decide_eq_true_eq] at hc h
    exact this (by rw [hc.1, hc.2, h.1, h.2])
  rw [postsF, this]; rfl
theorem postsF_sorted {l : List Entry} (hs : SortedE l) (f t : Str) : postsF l f t = if entT l f t = true then (l.getD (entK l f t) default).posts else [] := by
  have hd := sortedE_dist hs
  cases hT : entT l f t with
  | true =>
    obtain ⟨e, h1, h2, h3⟩ := entT_get hT
    have hx : l.getD (entK l f t) default = e := by rw [List.getD_eq_getElem?_getD, h1]; rfl
    have he : entEq f t e = true := entEq_key.2 (by rw [keyE, h2, h3])
    have hm := List.mem_of_getElem? h1
    rw [if_pos rfl, hx, postsF, filter_one hd]
    cases hj : entIx l f t with
    | none =>
      rw [entIx, List.findIdx?_eq_none_iff] at hj
      rw [hj e hm] at he; cases he
    | some j =>
      obtain ⟨h4, h5⟩ := entIx_lt hj
      have hx2 : l[j]? = some (l.getD j default) := by rw [List.getD_eq_getElem?_getD, List.getElem?_eq_getElem h4]; rfl
      have := distE_inj hd (List.mem_of_getElem? hx2) hm ((entEq_key.1 h5).trans (entEq_key.1 he).symm)
      simp only [List.flatMap_cons, List.flatMap_nil, List.append_nil, this]
  | false =>
    have : l.filter (entEq f t) = [] := by
      rw [List.filter_eq_nil_iff]
      intro e he hc
      obtain ⟨A, B, rfl, hk, hA, hB⟩ := sorted_split f t l hs
      have hke := entEq_key.1 hc
      rcases List.mem_append.1 he with he | he
      · have := hA e he
        rw [entLt_key, hke, keyLt_swo.irrefl] at this
        cases this
      · cases B with
        | nil => cases he
        | cons b B =>
          have hb := hB b (by simp)
          rcases List.mem_cons.1 he with rfl | he
          · rw [entT, hk, List.getElem?_append_right (Nat.le_refl _), Nat.sub_self] at hT
            simp only [List.getElem?_cons_zero] at hT
            rw [hT] at hc; cases hc
          · have h2 := (List.pairwise_cons.1 (List.pairwise_append.1 hs).2.1).1 e he
            rw [hke, ← entLt_key, hb] at h2
            cases h2
    rw [postsF, this]; rfl
def postsA (fl : List Field) (rows : List DRow) (ents : List Entry) (nx : Int) (f t : Str) : List Post := if indexOkS fl rows ents nx = true then postsF ents f t else []
theorem postsF_sm {l : List Entry} (he : EntSm l) (hd : DistE l) (f t : Str) : (postsF l f t).length ≤ 1099511627776 ∧ ∀ p ∈ postsF l f t, p.ats.length ≤ 1099511627776 := by
  rw [postsF, filter_one hd]
  cases hj : entIx l f t with
  | none => simp
  | some j =>
    obtain ⟨h4, h5⟩ := entIx_lt hj
    have hx2 : l[j]? = some (l.getD j default) := by rw [List.getD_eq_getElem?_getD, List.getElem?_eq_getElem h4]; rfl
    have := he.2 _ (List.mem_of_getElem? hx2)
    simp only [List.flatMap_cons, List.flatMap_nil, List.append_nil]
    exact this
theorem implPosts_R (fl : List Field) (rows : List DRow) (ents : List Entry) (nx : Int) (f t : Str) (hfl : FSm fl) (hr : RowsM rows) (he : EntSm ents) (hn : -9223372036854775808 ≤ nx ∧ nx ≤ 9223372036854775807) : R S0 36 [.agg [.sl (fl.map Field.pv), .sl (rows.map DRow.pvF), .sl (ents.map Entry.pvF), .int .i64 nx], .str f, .str t] = some ⟨[none, none, none], .slo 2 ((postsA fl rows ents nx f t).map Post.pv)⟩ := by
  obtain ⟨hel, hes⟩ := id he
  cases h : indexOkS fl rows ents nx with
  | false =>
    rw [postsA, h, if_neg (by simp)]
    refine go36 rfl ?_; simp only [go_sem, ↓reduceIte, Nat.reduceAdd, Nat.reduceSub, Nat.reduceEqDiff, Nat.reduceLT, Nat.reduceLeDiff, Nat.reduceMul, Int.reduceNeg, Int.reduceToNat, Int.reduceEq, Int.reduceLT, Int.reduceLE, reduceCtorEq, Tryz.f36, hfl, hr, he, hn, h]
  | true =>
    rw [postsA, h, if_pos rfl]
    have hd : DistE ents := by
      obtain ⟨_, _, _, _, rfl⟩ := indexOk_parts h
      exact sortedE_dist (rows_both fl rows rows.length).1
    refine go36 rfl ?_; simp only [go_sem, ↓reduceIte, Nat.reduceAdd, Nat.reduceSub, Nat.reduceEqDiff, Nat.reduceLT, Nat.reduceLeDiff, Nat.reduceMul, Int.reduceNeg, Int.reduceToNat, Int.reduceEq, Int.reduceLT, Int.reduceLE, reduceCtorEq, Tryz.f36, hfl, hr, he, hn, h]
    refine ends_for ents.length (by omega) (fun i _ => mkSt [(1, .str f), (2, .str t), (7, .own 0), (18, .sl (ents.map Entry.pvF)), (19, .int .i64 ents.length), (20, .int .i64 i)] [.slo 2 ((postsF (ents.take i) f t).map Post.pv)]) (fun _ _ => True) 0 () (by omega) trivial ?_ ?_
    · rintro i _ hi - hw ih
      obtain ⟨x, hx, hg, _⟩ := drop_get hi default
      have ih' := ih () trivial
      rw [postsF_succ hx] at ih'
      obtain ⟨hxl, hxp⟩ := hes x (List.mem_of_getElem? hx)
      by_cases c1 : x.field = f
      · by_cases c2 : x.term = t
        · have hq : entEq f t x = true := by simp [entEq, c1, c2]
          rw [postsF_before hd hx hq, if_pos hq, List.nil_append] at ih'
          rw [postsF_before hd hx hq]
          simp only [go_sem, ↓reduceIte, Nat.reduceAdd, Nat.reduceSub, Nat.reduceEqDiff, Nat.reduceLT, Nat.reduceLeDiff, Nat.reduceMul, Int.reduceNeg, Int.reduceToNat, Int.reduceEq, Int.reduceLT, Int.reduceLE, reduceCtorEq, hi, hw, hg, hx, eq_true c1, eq_true c2]
          refine ends_for x.posts.length (by omega) (fun j _ => mkSt [(1, .str f), (2, .str t), (7, .own 0), (18, .sl (ents.map Entry.pvF)), (19, .int .i64 ents.length), (20, .int .i64 i), (35, .sl (x.posts.map Post.pvF)), (36, .int .i64 x.posts.length), (37, .int .i64 j)] [.slo 2 ((x.posts.take j).map Post.pv)]) (fun _ _ => True) 0 () (by omega) trivial ?_ ?_
          · rintro j _ hj - hw2 ih2
            obtain ⟨y, hy, hgy, _⟩ := drop_get hj default
            have ih2' := ih2 () trivial
            have hya := hxp y (List.mem_of_getElem? hy)
            have e : x.posts.take (j + 1) = x.posts.take j ++ [Post.mk y.doc y.ats] := by rw [List.take_add_one, hy]; rfl
            have hle : (x.posts.take j).length ≤ 1099511627776 := by rw [List.length_take]; omega
            rw [e] at ih2'
            simp only [go_sem, ↓reduceIte, Nat.reduceAdd, Nat.reduceSub, Nat.reduceEqDiff, Nat.reduceLT, Nat.reduceLeDiff, Nat.reduceMul, Int.reduceNeg, Int.reduceToNat, Int.reduceEq, Int.reduceLT, Int.reduceLE, reduceCtorEq, hi, hw, hg, hx, hj, hw2, hgy, hy, hya]
            exact ⟨by omega, by omega, by decide +kernel, ih2'⟩
          · rintro _ -
            rw [List.take_length]
            simp only [go_sem, ↓reduceIte, Nat.reduceAdd, Nat.reduceSub, Nat.reduceEqDiff, Nat.reduceLT, Nat.reduceLeDiff, Nat.reduceMul, Int.reduceNeg, Int.reduceToNat, Int.reduceEq, Int.reduceLT, Int.reduceLE, reduceCtorEq, hi, hw, hg, hx]
            exact ih'
        · have hq : entEq f t x = false := by simp [entEq, c2]
          rw [if_neg (by rw [hq]; simp), List.append_nil] at ih'
          simp only [go_sem, ↓reduceIte, Nat.reduceAdd, Nat.reduceSub, Nat.reduceEqDiff, Nat.reduceLT, Nat.reduceLeDiff, Nat.reduceMul, Int.reduceNeg, Int.reduceToNat, Int.reduceEq, Int.reduceLT, Int.reduceLE, reduceCtorEq, hi, hw, hg, hx, eq_true c1, c2]
          exact ih'
      · have hq : entEq f t x = false := by simp [entEq, c1]
        rw [if_neg (by rw [hq]; simp), List.append_nil] at ih'
        simp only [go_sem, ↓reduceIte, Nat.reduceAdd, Nat.reduceSub, Nat.reduceEqDiff, Nat.reduceLT, Nat.reduceLeDiff, Nat.reduceMul, Int.reduceNeg, Int.reduceToNat, Int.reduceEq, Int.reduceLT, Int.reduceLE, reduceCtorEq, hi, hw, hg, hx, c1]
        exact ih'
    · rintro _ -
      rw [List.take_length]
      simp only [go_sem, ↓reduceIte, Nat.reduceAdd, Nat.reduceSub, Nat.reduceEqDiff, Nat.reduceLT, Nat.reduceLeDiff, Nat.reduceMul, Int.reduceNeg, Int.reduceToNat, Int.reduceEq, Int.reduceLT, Int.reduceLE, reduceCtorEq]
theorem l4Posts_R (fl : List Field) (rows : List DRow) (ents : List Entry) (nx : Int) (f t : Str) (he : EntSm ents) (hs : SortedE ents) : R S0 89 [.agg [.sl (fl.map Field.pv), .sl (rows.map DRow.pvF), .sl (ents.map Entry.pvF), .int .i64 nx], .str f, .str t] = some ⟨[none, none, none], .slo 2 ((postsF ents f t).map Post.pv)⟩ := by
  obtain ⟨hel, hes⟩ := id he
  rw [postsF_sorted hs]
  cases hT : entT ents f t with
  | false =>
    rw [if_neg (by simp)]
    refine go89 rfl ?_; simp only [go_sem, ↓reduceIte, Nat.reduceAdd, Nat.reduceSub, Nat.reduceEqDiff, Nat.reduceLT, Nat.reduceLeDiff, Nat.reduceMul, Int.reduceNeg, Int.reduceToNat, Int.reduceEq, Int.reduceLT, Int.reduceLE, reduceCtorEq, Tryz.f89, hel, hT]
  | true =>
    rw [if_pos rfl]
    obtain ⟨x, hx, _, _⟩ := entT_get hT
    have hi : entK ents f t < ents.length := (List.getElem?_eq_some_iff.1 hx).1
    have hg : ents.getD (entK ents f t) default = x := by rw [List.getD_eq_getElem?_getD, hx]; rfl
    obtain ⟨hxl, hxp⟩ := hes x (List.mem_of_getElem? hx)
    rw [hg]
    generalize hK : entK ents f t = K at *
    refine go89 rfl ?_; simp only [go_sem, ↓reduceIte, Nat.reduceAdd, Nat.reduceSub, Nat.reduceEqDiff, Nat.reduceLT, Nat.reduceLeDiff, Nat.reduceMul, Int.reduceNeg, Int.reduceToNat, Int.reduceEq, Int.reduceLT, Int.reduceLE, reduceCtorEq, Tryz.f89, hel, hT, hK, hi, hx, hg]
    refine ends_for x.posts.length (by omega) (fun j _ => mkSt [(3, .addr 0 0 0), (7, .own 1), (8, .int .i64 K), (10, .int .i64 j)] [.pto [.sl (fl.map Field.pv), .sl (rows.map DRow.pvF), .sl (ents.map Entry.pvF), .int .i64 nx], .slo 2 ((x.posts.take j).map Post.pv)]) (fun _ _ => True) 0 () (by omega) trivial ?_ ?_
    · rintro j _ hj - hw2 ih2
      obtain ⟨y, hy, hgy, _⟩ := drop_get hj default
      have ih2' := ih2 () trivial
      have hya := hxp y (List.mem_of_getElem? hy)
      have e : x.posts.take (j + 1) = x.posts.take j ++ [Post.mk y.doc y.ats] := by rw [List.take_add_one, hy]; rfl
      have hle : (x.posts.take j).length ≤ 1099511627776 := by rw [List.length_take]; omega
      rw [e] at ih2'
      simp only [go_sem, ↓reduceIte, Nat.reduceAdd, Nat.reduceSub, Nat.reduceEqDiff, Nat.reduceLT, Nat.reduceLeDiff, Nat.reduceMul, Int.reduceNeg, Int.reduceToNat, Int.reduceEq, Int.reduceLT, Int.reduceLE, reduceCtorEq, hi, hg, hx, hj, hw2, hgy, hy, hya]
      exact ⟨by omega, by omega, by decide +kernel, ih2'⟩
    · rintro _ -
      rw [List.take_length]
      simp only [go_sem, ↓reduceIte, Nat.reduceAdd, Nat.reduceSub, Nat.reduceEqDiff, Nat.reduceLT, Nat.reduceLeDiff, Nat.reduceMul, Int.reduceNeg, Int.reduceToNat, Int.reduceEq, Int.reduceLT, Int.reduceLE, reduceCtorEq, hi, hg, hx]
theorem specPosts_R (fl : List Field) (rows : List DRow) (ents : List Entry) (nx : Int) (f t : Str) (hfl : FSm fl) (hr : RowsM rows) (he : EntSm ents) (hn : -9223372036854775808 ≤ nx ∧ nx ≤ 9223372036854775807) : R S0 38 [.agg [.sl (fl.map Field.pv), .sl (rows.map DRow.pvF), .sl (ents.map Entry.pvF), .int .i64 nx], .str f, .str t] = some ⟨[none, none, none], .slo 2 ((postsA fl rows ents nx f t).map Post.pv)⟩ := by
  cases h : indexOkS fl rows ents nx with
  | false =>
    rw [postsA, h, if_neg (by simp)]
    refine go38 rfl ?_; simp only [go_sem, ↓reduceIte, Nat.reduceAdd, Nat.reduceSub, Nat.reduceEqDiff, Nat.reduceLT, Nat.reduceLeDiff, Nat.reduceMul, Int.reduceNeg, Int.reduceToNat, Int.reduceEq, Int.reduceLT, Int.reduceLE, reduceCtorEq, Tryz.f38, hfl, hr, he, hn, h]
  | true =>
    rw [postsA, h, if_pos rfl]
    have hs : SortedE ents := by
      obtain ⟨_, _, _, _, rfl⟩ := indexOk_parts h
      exact (rows_both fl rows rows.length).1
    have e := l4Posts_R fl rows ents nx f t he hs
    refine go38 rfl ?_; simp only [go_sem, ↓reduceIte, Nat.reduceAdd, Nat.reduceSub, Nat.reduceEqDiff, Nat.reduceLT, Nat.reduceLeDiff, Nat.reduceMul, Int.reduceNeg, Int.reduceToNat, Int.reduceEq, Int.reduceLT, Int.reduceLE, reduceCtorEq, Tryz.f38, hfl, hr, he, hn, h, e]
def DPoPost (r : Ans) : Prop := ∃ fl : List Field, ∃ rows : List DRow, ∃ ents : List Entry, ∃ nx : Int, ∃ f t : Str, r = ⟨[none], .tup [.agg [.sl (fl.map Field.pv), .sl (rows.map DRow.pvF), .sl (ents.map Entry.pvF), .int .i64 nx], .str f, .str t]⟩ ∧ FSm fl ∧ RowsS 21 5 rows ∧ EntSm ents ∧ -1 ≤ nx ∧ nx ≤ 999999999 ∧ f ≠ [] ∧ f.length ≤ 1000 ∧ t.length ≤ 1000
theorem drawIndexPosts_ex (b : Str) : ∃ r, R S0 35 [.sl (b.map bytePV)] = some r ∧ DPoPost r := by
  have hb : (b.take 2000).length ≤ 2000 := by simp; omega
  obtain ⟨r1, hr1, fl, rows, ents, nx, p1, rfl, h1, h2, hfl, hrs, hes, hn1, hn2⟩ := anyIndex_ex (b.take 2000) 0 (by omega) hb
  rw [show ((0 : Nat) : Int) = 0 from rfl] at hr1
  have hm := more (p := p1) (by omega)
  have hwl := wordV_len (b := b.take 2000) (p := p1 + 1) (by omega) hb
  have hwb : (wordV (b.take 2000) (p1 + 1)).length ≤ 1099511627776 := by omega
  refine (fun ⟨r, h, hp⟩ => ⟨r, go35 rfl h, hp⟩ : (∃ r, Ends S0 _ _ r ∧ _) → _) ?_
  simp only [go_sem, ↓reduceIte, Nat.reduceAdd, Nat.reduceSub, Nat.reduceEqDiff, Nat.reduceLT, Nat.reduceLeDiff, Nat.reduceMul, Int.reduceNeg, Int.reduceToNat, Int.reduceEq, Int.reduceLT, Int.reduceLE, reduceCtorEq, Tryz.f35, hr1, hm, hb, hwb, ex_if, ex_bool, ex_and, ex_eq]
  exact ⟨fl, rows, ents, nx, _, _, rfl, hfl, hrs, hes, hn1, hn2, nameV_ne (by omega) hb, nameV_len (by omega) hb, by have := stem_len (wordV (b.take 2000) (p1 + 1)); omega⟩
@[go_sem] theorem FnFindWord_R (b : Str) (hb : b.length ≤ 9223372036854775807) : R S0 9 [.sl (b.map bytePV)] = some ⟨[none], .bool true⟩ := by
  by_cases h : 1048576 < (b.length : Int)
  · refine go9 rfl ?_; simp only [go_sem, ↓reduceIte, Nat.reduceAdd, Nat.reduceSub, Nat.reduceEqDiff, Nat.reduceLT, Nat.reduceLeDiff, Nat.reduceMul, Int.reduceNeg, Int.reduceToNat, Int.reduceEq, Int.reduceLT, Int.reduceLE, reduceCtorEq, Tryz.f9, h]
  obtain ⟨r, hr, fl, rows, ents, nx, f, t, rfl, hfl, hrs, hes, hn1, hn2, hf0, hfn, htn⟩ := drawIndexPosts_ex b
  have hm := hrs.sm (by omega) (by omega)
  have hn : -9223372036854775808 ≤ nx ∧ nx ≤ 9223372036854775807 := by omega
  have hfB : f.length ≤ 1099511627776 := by omega
  have htB : t.length ≤ 1099511627776 := by omega
  have e1 := specFits_leaf fl 2 f t hfl hfB htB
  have e2 := implFind_word fl rows ents nx f t hfl hm hes hn hfB htB
  have e3 := implPosts_R fl rows ents nx f t hfl hm hes hn
  have e4 := specPosts_R fl rows ents nx f t hfl hm hes hn
  cases c1 : indexOkS fl rows ents nx with
  | false =>
    have kA : postsA fl rows ents nx f t = [] := by rw [postsA, if_neg (by rw [c1]; simp)]
    rw [kA] at e3 e4
    have eS := sdPostsI_R [] (by simp) (by simp)
    rw [List.map_nil] at e3 e4 eS
    refine go9 rfl ?_; simp only [go_sem, ↓reduceIte, Nat.reduceAdd, Nat.reduceSub, Nat.reduceEqDiff, Nat.reduceLT, Nat.reduceLeDiff, Nat.reduceMul, Int.reduceNeg, Int.reduceToNat, Int.reduceEq, Int.reduceLT, Int.reduceLE, reduceCtorEq, Tryz.f9, h, hr, hfl, hm, hes, hn, c1, e3, e4, eS]
  | true =>
    obtain ⟨ho1, ho2, ho3, ho4, rfl⟩ := indexOk_parts c1
    obtain ⟨_, _, hp3⟩ := rowsOk_iff.1 ho1
    have hs : SortedE (madeE fl rows) := (rows_both fl rows rows.length).1
    have kA : postsA fl rows (madeE fl rows) nx f t = postsF (madeE fl rows) f t := by rw [postsA, if_pos c1]
    rw [kA] at e3 e4
    obtain ⟨hpl, hpp⟩ := postsF_sm hes (sortedE_dist hs) f t
    have eS := sdPostsI_R _ hpl hpp
    cases c2 : fitsQ fl (.mk 2 f t 0 0 []) with
    | false =>
      rw [c2] at e1
      refine go9 rfl ?_; simp only [go_sem, ↓reduceIte, Nat.reduceAdd, Nat.reduceSub, Nat.reduceEqDiff, Nat.reduceLT, Nat.reduceLeDiff, Nat.reduceMul, Int.reduceNeg, Int.reduceToNat, Int.reduceEq, Int.reduceLT, Int.reduceLE, reduceCtorEq, Tryz.f9, h, hr, hfl, hm, hes, hn, c1, e1, e3, e4, eS]
    | true =>
      rw [c2] at e1
      cases c3 : (isWord t && decide (stem t = t)) with
      | false => refine go9 rfl ?_; simp only [go_sem, ↓reduceIte, Nat.reduceAdd, Nat.reduceSub, Nat.reduceEqDiff, Nat.reduceLT, Nat.reduceLeDiff, Nat.reduceMul, Int.reduceNeg, Int.reduceToNat, Int.reduceEq, Int.reduceLT, Int.reduceLE, reduceCtorEq, Tryz.f9, h, hr, hfl, hm, hes, hn, c1, e1, e3, e4, eS, htB, c3]
      | true =>
        have hT : Trm t := by
          simp only [Bool.and_eq_true, decide_eq_true_eq] at c3
          have hne : t ≠ [] := by have := c3.1; simp only [isWord, Bool.and_eq_true] at this; simpa using this.2
          exact ⟨c3.1, c3.2, hne, by have := stem_len t; rw [c3.2] at this; exact this⟩
        have kF : (postsF (madeE fl rows) f t).map (·.doc) = findA fl rows (madeE fl rows) nx (wordQ f t) := by
          rw [made_docs hp3 hT.2.2.1, findA_ids (ask_of (q := wordQ f t) c1 c2)]
          exact idsP_congr fun r _ => (meets_has ho2 hf0 hT).symm
        refine go9 rfl ?_; simp only [go_sem, ↓reduceIte, Nat.reduceAdd, Nat.reduceSub, Nat.reduceEqDiff, Nat.reduceLT, Nat.reduceLeDiff, Nat.reduceMul, Int.reduceNeg, Int.reduceToNat, Int.reduceEq, Int.reduceLT, Int.reduceLE, reduceCtorEq, Tryz.f9, h, hr, hfl, hm, hes, hn, c1, e1, e3, e4, eS, htB, c3]
        have lF : (findA fl rows (madeE fl rows) nx (wordQ f t)).length ≤ 1099511627776 := by
          have := findA_len (fl := fl) (rows := rows) (ents := madeE fl rows) (nx := nx) (q := wordQ f t); omega
        generalize postsF (madeE fl rows) f t = P at *
        refine ends_for P.length (by omega) (fun i _ => mkSt [(3, .addr 0 0 0), (6, .own 1), (7, .addr 2 0 0), (8, .own 3), (9, .int .i64 i)] [.pto [.sl (fl.map Field.pv), .sl (rows.map DRow.pvF), .sl ((madeE fl rows).map Entry.pvF), .int .i64 nx], .slo 2 (P.map Post.pv), .pto [.int .i64 2, .str f, .str t, .int .i64 0, .int .i64 0, .slo 6 []], .slo 1 (((P.take i).map (·.doc)).map (.int .i64))]) (fun _ _ => True) 0 () (by omega) trivial ?_ ?_
        · rintro i _ hi - hw ih
          obtain ⟨x, hx, hg, _⟩ := drop_get hi default
          have ih' := ih () trivial
          have hle : ((P.take i).map (·.doc)).length ≤ 1099511627776 := by rw [List.length_map, List.length_take]; omega
          have e : (P.take (i + 1)).map (·.doc) = (P.take i).map (·.doc) ++ [x.doc] := by rw [List.take_add_one, hx, List.map_append]; rfl
          rw [e] at ih'
          rw [List.length_map] at hle
          simp only [go_sem, ↓reduceIte, Nat.reduceAdd, Nat.reduceSub, Nat.reduceEqDiff, Nat.reduceLT, Nat.reduceLeDiff, Nat.reduceMul, Int.reduceNeg, Int.reduceToNat, Int.reduceEq, Int.reduceLT, Int.reduceLE, reduceCtorEq, hi, hw, hg, hx]
          exact ⟨by omega, ih'⟩
        · rintro _ -
          rw [List.take_length, kF]
          simp only [go_sem, ↓reduceIte, Nat.reduceAdd, Nat.reduceSub, Nat.reduceEqDiff, Nat.reduceLT, Nat.reduceLeDiff, Nat.reduceMul, Int.reduceNeg, Int.reduceToNat, Int.reduceEq, Int.reduceLT, Int.reduceLE, reduceCtorEq, e2, lF]
end Go.Proofs.YtgnggcpcijcahaaGreatDoor.PVE
