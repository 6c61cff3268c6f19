/- The program's ranking; the law of what looks for all. -/
import Derived.Test.YtgnggcpcijcahaaGreatDoorT63
set_option linter.unusedVariables false
set_option linter.unusedSimpArgs false
set_option maxRecDepth 100000
namespace Go.Proofs.YtgnggcpcijcahaaGreatDoor.PVE
open PV Query
theorem hitsL_len (fl : List Field) (rows : List DRow) (q : Query) : (hitsL fl rows q).length ≤ rows.length := by
  rw [hitsL, List.length_map]; exact List.length_filter_le _ _
theorem implRank_R (fl : List Field) (rows : List DRow) (ents : List Entry) (nx : Int) (q : Query) (hfl : FSm fl) (hr : RowsM rows) (he : EntSm ents) (hn : -9223372036854775808 ≤ nx ∧ nx ≤ 9223372036854775807) (hq : q.Sm) : R S0 22 [.agg [.sl (fl.map Field.pv), .sl (rows.map DRow.pvF), .sl (ents.map Entry.pvF), .int .i64 nx], .agg [.int .i64 q.kind, .str q.field, .str q.text, .int .i64 q.low, .int .i64 q.high, .sl (q.parts.map pv)]] = some ⟨[none, none], .slo 3 ((rankS fl rows ents nx q).map Hit.pv)⟩ := by
  have hl : rows.length ≤ 1099511627776 := hr.1
  cases c : askOk fl rows ents nx q with
  | false =>
    rw [rankS, c, if_neg (by simp)]
    refine go22 rfl ?_; simp only [go_sem, ↓reduceIte, Nat.reduceAdd, Nat.reduceSub, Nat.reduceEqDiff, Nat.reduceLT, Nat.reduceLeDiff, Nat.reduceMul, Int.reduceNeg, Int.reduceToNat, Int.reduceEq, Int.reduceLT, Int.reduceLE, reduceCtorEq, Tryz.f22, hfl, hr, he, hn, hq, c]
  | true =>
    obtain ⟨c1, c2, c3⟩ := ask_parts c
    obtain ⟨_, hp2, hp3⟩ := rowsOk_iff.1 (indexOk_parts c1).1
    have hD := indexOk_rows c1
    have hrl8 := hD.1
    have hF := find_R fl rows ents nx q hfl hD hq 4 c3
    have hFl : (rows.filter fun r => meetsM fl r.doc q).length ≤ 8 := Nat.le_trans (List.length_filter_le _ _) hrl8
    have hS := sortH_R (hitsL fl rows q) (hitsL_ne hp2) (by have := hitsL_len fl rows q; omega)
    rw [rank_sort hp2] at hS
    rw [rankS, c, if_pos rfl]
    rw [findS] at hF
    have hFm : ∀ r ∈ rows.filter fun r => meetsM fl r.doc q, r ∈ rows := fun r h => (List.mem_filter.1 h).1
    rw [hitsL] at hS
    generalize (rows.filter fun r => meetsM fl r.doc q) = F at *
    refine go22 rfl ?_; simp only [go_sem, ↓reduceIte, Nat.reduceAdd, Nat.reduceSub, Nat.reduceEqDiff, Nat.reduceLT, Nat.reduceLeDiff, Nat.reduceMul, Int.reduceNeg, Int.reduceToNat, Int.reduceEq, Int.reduceLT, Int.reduceLE, reduceCtorEq, Tryz.f22, hfl, hr, he, hn, hq, c, hF]
    rw [show (PV.slo 3 []) = .slo 3 (((F.take 0).map (hitOf fl rows q)).map Hit.pv) by rfl]
    refine ends_for F.length (by omega) (fun i _ => mkSt [(2, .addr 0 0 0), (3, .addr 1 0 0), (5, .own 2), (17, .own 3), (18, .int .i64 F.length), (19, .int .i64 i)] [.pto [.sl (fl.map Field.pv), .sl (rows.map DRow.pvF), .sl (ents.map Entry.pvF), .int .i64 nx], .pto [.int .i64 q.kind, .str q.field, .str q.text, .int .i64 q.low, .int .i64 q.high, .sl (q.parts.map pv)], .slo 3 (((F.take i).map (hitOf fl rows q)).map Hit.pv), .slo 1 ((F.map (·.id)).map (.int .i64))]) (fun _ _ => True) 0 () (by omega) trivial ?_ ?_
    · rintro i _ hi - hw ih
      obtain ⟨r, hx, hg, _⟩ := drop_get hi default
      have ih' := ih () trivial
      have hrm := hFm r (List.mem_of_getElem? hx)
      obtain ⟨j, hj, hj1, hjx⟩ := idIx_at hp3 hrm
      obtain ⟨r', hjx2, hjg, _⟩ := drop_get hj default
      rw [hjx] at hjx2
      obtain rfl := Option.some.inj hjx2
      have hS := score_R fl rows ents nx r.doc hfl hD (hD.2 r hrm) 4 (by omega) q hq c3
      have hid : (F.map (·.id))[i]? = some r.id := by rw [List.getElem?_map, hx]; rfl
      have hid2 : (F.map (·.id)).getD i default = r.id := by rw [List.getD_eq_getElem?_getD, hid]; rfl
      have hil : i < (F.map (·.id)).length := by rw [List.length_map]; exact hi
      have e : (F.take (i + 1)).map (hitOf fl rows q) = (F.take i).map (hitOf fl rows q) ++ [⟨r.id, r.doc.key, scoreN fl rows r.doc q⟩] := by rw [List.take_add_one, hx]; simp [hitOf]
      rw [e] at ih'
      have hlen : (F.take i).length ≤ 1099511627776 := by rw [List.length_take]; omega
      simp only [go_sem, ↓reduceIte, Nat.reduceAdd, Nat.reduceSub, Nat.reduceEqDiff, Nat.reduceLT, Nat.reduceLeDiff, Nat.reduceMul, Int.reduceNeg, Int.reduceToNat, Int.reduceEq, Int.reduceLT, Int.reduceLE, reduceCtorEq, hi, hw, hil, hid, hid2, hl, hj1, hj, hjg, hjx, hS, List.length_map]
      exact ⟨by decide +kernel, by omega, by decide +kernel, ih'⟩
    · rintro _ -
      rw [List.take_length]
      simp only [go_sem, ↓reduceIte, Nat.reduceAdd, Nat.reduceSub, Nat.reduceEqDiff, Nat.reduceLT, Nat.reduceLeDiff, Nat.reduceMul, Int.reduceNeg, Int.reduceToNat, Int.reduceEq, Int.reduceLT, Int.reduceLE, reduceCtorEq, hS]
theorem rank_allQ {fl : List Field} {rows : List DRow} {ents : List Entry} {nx : Int} (h : indexOkS fl rows ents nx = true) : (rankS fl rows ents nx allQ).length = rows.length ∧ (∀ x ∈ rankS fl rows ents nx allQ, x.score = 0) ∧ ∀ (i j : Nat) (x y : Hit), (rankS fl rows ents nx allQ)[i]? = some y → (rankS fl rows ents nx allQ)[j]? = some x → i < j → Op.bytesLess y.key x.key = true := by
  obtain ⟨_, hp2, _⟩ := rowsOk_iff.1 (indexOk_parts h).1
  have e : rankS fl rows ents nx allQ = rankTo fl rows allQ rows.length := by rw [rankS, if_pos (ask_all h)]
  have hall : (rows.filter fun r => meetsM fl r.doc allQ) = rows := List.filter_eq_self.2 fun r _ => meets_all fl r.doc
  have hperm := rankTo_hits (fl := fl) (rows := rows) (q := allQ)
  have hz : ∀ x ∈ rankTo fl rows allQ rows.length, x.score = 0 := fun x hx => by
    obtain ⟨r, _, rfl⟩ := List.mem_map.1 (hperm.mem_iff.1 hx)
    show ((scoreN fl rows r.doc allQ : Nat) : Int) = 0
    rw [scoreN_eq]
    simp [allQ, Query.kind]
  rw [e]
  refine ⟨by rw [hperm.length_eq, hitsL, hall, List.length_map], hz, fun i j x y hy hx hij => ?_⟩
  have hs := rankTo_sorted (fl := fl) (q := allQ) hp2 rows.length (Nat.le_refl _)
  obtain ⟨hi, hy⟩ := List.getElem?_eq_some_iff.1 hy
  obtain ⟨hj, hx⟩ := List.getElem?_eq_some_iff.1 hx
  have := (List.pairwise_iff_getElem.1 hs) i j hi hj hij
  rw [hy, hx] at this
  have h1 := hz y (hy ▸ List.getElem_mem hi)
  have h2 := hz x (hx ▸ List.getElem_mem hj)
  rw [hitLt_iff] at this
  rw [bl_def, decide_eq_true_eq]
  rcases this with h | h
  · simp only [Go.Proofs.YtgnggcpcijcahaaGreatDoor.PVE.hk, h1, h2] at h; omega
  · exact h.2
theorem implRank_all (fl : List Field) (rows : List DRow) (ents : List Entry) (nx : Int) (hfl : FSm fl) (hr : RowsM rows) (he : EntSm ents) (hn : -9223372036854775808 ≤ nx ∧ nx ≤ 9223372036854775807) : R S0 22 [.agg [.sl (fl.map Field.pv), .sl (rows.map DRow.pvF), .sl (ents.map Entry.pvF), .int .i64 nx], .agg [.int .i64 1, .str [], .str [], .int .i64 0, .int .i64 0, .sl []]] = some ⟨[none, none], .slo 3 ((rankS fl rows ents nx allQ).map Hit.pv)⟩ := implRank_R fl rows ents nx allQ hfl hr he hn allQ_sm
@[go_sem] theorem FnRankAll_R (b : Str) (hb : b.length ≤ 9223372036854775807) : R S0 5 [.sl (b.map bytePV)] = some ⟨[none], .bool true⟩ := by
  by_cases h : 1048576 < (b.length : Int)
  · refine go5 rfl ?_; simp only [go_sem, ↓reduceIte, Nat.reduceAdd, Nat.reduceSub, Nat.reduceEqDiff, Nat.reduceLT, Nat.reduceLeDiff, Nat.reduceMul, Int.reduceNeg, Int.reduceToNat, Int.reduceEq, Int.reduceLT, Int.reduceLE, reduceCtorEq, Tryz.f5, h]
  obtain ⟨r, hr, fl, rows, ents, nx, rfl, hfl, hrs, hes, hn1, hn2⟩ := drawIndexOk_ex b
  have hm := hrs.sm (by omega) (by omega)
  have hn : -9223372036854775808 ≤ nx ∧ nx ≤ 9223372036854775807 := by omega
  cases hok : indexOkS fl rows ents nx with
  | false => refine go5 rfl ?_; simp only [go_sem, ↓reduceIte, Nat.reduceAdd, Nat.reduceSub, Nat.reduceEqDiff, Nat.reduceLT, Nat.reduceLeDiff, Nat.reduceMul, Int.reduceNeg, Int.reduceToNat, Int.reduceEq, Int.reduceLT, Int.reduceLE, reduceCtorEq, Tryz.f5, h, hr, hfl, hm, hes, hn, hok]
  | true =>
    have e1 := implRank_all fl rows ents nx hfl hm hes hn
    obtain ⟨k1, k2, k3⟩ := rank_allQ hok
    have hrl8 := (indexOk_parts hok).2.2.1
    generalize rankS fl rows ents nx allQ = L at *
    have k1' : (L.length : Int) = (rows.length : Int) := by omega
    have hLl : L.length ≤ 8 := by omega
    refine go5 rfl ?_; simp only [go_sem, ↓reduceIte, Nat.reduceAdd, Nat.reduceSub, Nat.reduceEqDiff, Nat.reduceLT, Nat.reduceLeDiff, Nat.reduceMul, Int.reduceNeg, Int.reduceToNat, Int.reduceEq, Int.reduceLT, Int.reduceLE, reduceCtorEq, Tryz.f5, h, hr, hfl, hm, hes, hn, hok, e1]
    refine ends_for L.length (by omega) (fun i _ => mkSt [(3, .addr 0 0 0), (5, .own 1), (6, .int .i64 i)] [.pto [.sl (fl.map Field.pv), .sl (rows.map DRow.pvF), .sl (ents.map Entry.pvF), .int .i64 nx], .slo 3 (L.map Hit.pv)]) (fun _ _ => True) 0 () (by omega) trivial ?_ ?_
    · rintro i _ hi - hw ih
      obtain ⟨x, hx, hg, _⟩ := drop_get hi default
      have ih' := ih () trivial
      have hz := k2 x (List.mem_of_getElem? hx)
      by_cases h0 : 0 < i
      · have hi1 : i - 1 < L.length := by omega
        obtain ⟨y, hy, hgy, _⟩ := drop_get hi1 default
        have h3 := k3 (i - 1) i x y hy hx (by omega)
        have h4 : Op.bytesLess x.key y.key = false := by
          rw [bl_def, decide_eq_false_iff_not]
          rw [bl_def, decide_eq_true_eq] at h3
          exact fun c => List.lt_irrefl _ (List.lt_trans c h3)
        have h5 : ¬ x.key = y.key := fun e => by
          rw [bl_def, decide_eq_true_eq, e] at h3
          exact List.lt_irrefl _ h3
        have hw1 : IntKind.i64.wrap ((i : Int) - 1) = ((i - 1 : Nat) : Int) := by rw [wrap_in (by omega) (by omega)]; omega
        have h0' : (0 : Int) < i := by omega
        simp only [go_sem, ↓reduceIte, Nat.reduceAdd, Nat.reduceSub, Nat.reduceEqDiff, Nat.reduceLT, Nat.reduceLeDiff, Nat.reduceMul, Int.reduceNeg, Int.reduceToNat, Int.reduceEq, Int.reduceLT, Int.reduceLE, reduceCtorEq, hi, hw, hg, hx, hz, h0, h0', hw1, hi1, hgy, hy, h3, h4, h5]
        exact ih'
      · have h0' : ¬ (0 : Int) < i := by omega
        simp only [go_sem, ↓reduceIte, Nat.reduceAdd, Nat.reduceSub, Nat.reduceEqDiff, Nat.reduceLT, Nat.reduceLeDiff, Nat.reduceMul, Int.reduceNeg, Int.reduceToNat, Int.reduceEq, Int.reduceLT, Int.reduceLE, reduceCtorEq, hi, hw, hg, hx, hz, h0, h0']
        exact ih'
    · rintro _ -
      simp only [go_sem, ↓reduceIte, Nat.reduceAdd, Nat.reduceSub, Nat.reduceEqDiff, Nat.reduceLT, Nat.reduceLeDiff, Nat.reduceMul, Int.reduceNeg, Int.reduceToNat, Int.reduceEq, Int.reduceLT, Int.reduceLE, reduceCtorEq, k1']
end Go.Proofs.YtgnggcpcijcahaaGreatDoor.PVE
