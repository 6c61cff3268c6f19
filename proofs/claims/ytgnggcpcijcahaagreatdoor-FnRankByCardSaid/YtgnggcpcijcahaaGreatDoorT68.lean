/- Documents by a number: both sides. -/
import Derived.Test.YtgnggcpcijcahaaGreatDoorT67
set_option linter.unusedVariables false
set_option linter.unusedSimpArgs false
set_option maxRecDepth 100000
namespace Go.Proofs.YtgnggcpcijcahaaGreatDoor.PVE
open PV Query
theorem withN_succ {fl : List Field} {f : Str} {F : List DRow} {i : Nat} {r : DRow} (hx : F[i]? = some r) : withN fl f (F.take (i + 1)) = withN fl f (F.take i) ++ (if hasN fl f r = true then [hitN fl f r] else []) := by
  rw [withN, List.take_add_one, hx, List.filter_append, List.map_append, withN]
  congr 1
  cases h : hasN fl f r <;> simp [h]
theorem withZ_succ {fl : List Field} {f : Str} {F : List DRow} {i : Nat} {r : DRow} (hx : F[i]? = some r) : withZ fl f (F.take (i + 1)) = withZ fl f (F.take i) ++ (if hasN fl f r = true then [] else [hitZ r]) := by
  rw [withZ, List.take_add_one, hx, List.filter_append, List.map_append, withZ]
  congr 1
  cases h : hasN fl f r <;> simp [h]
theorem withN_len (fl : List Field) (f : Str) (F : List DRow) : (withN fl f F).length ≤ F.length := by
  rw [withN, List.length_map]; exact List.length_filter_le _ _
theorem withZ_len (fl : List Field) (f : Str) (F : List DRow) : (withZ fl f F).length ≤ F.length := by
  rw [withZ, List.length_map]; exact List.length_filter_le _ _
theorem sortH_len2 (l : List Hit) : (sortH l).length = l.length := (sortH_perm l).length_eq
theorem sortD_len (down : Bool) (l : List Hit) : (sortD down l).length = l.length := (sortD_perm down l).length_eq
theorem rankByS_no {fl : List Field} {rows : List DRow} {ents : List Entry} {nx : Int} {q : Query} {f : Str} {down : Bool} (h : askOk fl rows ents nx q = false ∨ ¬ (fieldOf fl f).kind = 2) : rankByS fl rows ents nx q f down = [] := by
  rw [rankByS, if_neg]
  rintro ⟨h1, h2⟩
  rcases h with h | h
  · rw [h] at h1; cases h1
  · exact h h2
theorem implRankBy_R (fl : List Field) (rows : List DRow) (ents : List Entry) (nx : Int) (q : Query) (f : Str) (down : Bool) (hfl : FSm fl) (hr : RowsM rows) (he : EntSm ents) (hn : -9223372036854775808 ≤ nx ∧ nx ≤ 9223372036854775807) (hq : q.Sm) : R S0 24 [.agg [.sl (fl.map Field.pv), .sl (rows.map DRow.pvF), .sl (ents.map Entry.pvF), .int .i64 nx], .agg [.int .i64 q.kind, .str q.field, .str q.text, .int .i64 q.low, .int .i64 q.high, .sl (q.parts.map pv)], .str f, .bool down] = some ⟨[none, none, none, none], .slo 3 ((rankByS fl rows ents nx q f down).map Hit.pv)⟩ := by
  have hl : rows.length ≤ 1099511627776 := hr.1
  obtain ⟨hfl1, _⟩ := id hfl
  cases c : askOk fl rows ents nx q with
  | false =>
    rw [rankByS_no (.inl c)]
    refine go24 rfl ?_; simp only [go_sem, ↓reduceIte, Nat.reduceAdd, Nat.reduceSub, Nat.reduceEqDiff, Nat.reduceLT, Nat.reduceLeDiff, Nat.reduceMul, Int.reduceNeg, Int.reduceToNat, Int.reduceEq, Int.reduceLT, Int.reduceLE, reduceCtorEq, Tryz.f24, hfl, hr, he, hn, hq, c]
  | true =>
    by_cases ck : (fieldOf fl f).kind = 2
    case neg =>
      rw [rankByS_no (.inr ck)]
      refine go24 rfl ?_; simp only [go_sem, ↓reduceIte, Nat.reduceAdd, Nat.reduceSub, Nat.reduceEqDiff, Nat.reduceLT, Nat.reduceLeDiff, Nat.reduceMul, Int.reduceNeg, Int.reduceToNat, Int.reduceEq, Int.reduceLT, Int.reduceLE, reduceCtorEq, Tryz.f24, hfl, hfl1, hr, he, hn, hq, c, ck]
    obtain ⟨c1, c2, c3⟩ := ask_parts c
    obtain ⟨_, hp2, hp3⟩ := rowsOk_iff.1 (indexOk_parts c1).1
    have hD := indexOk_rows c1
    have hrl8 := hD.1
    have hF := find_R fl rows ents nx q hfl hD hq 4 c3
    have hFl : (rows.filter fun r => meetsM fl r.doc q).length ≤ 8 := Nat.le_trans (List.length_filter_le _ _) hrl8
    have hFp : (rows.filter fun r => meetsM fl r.doc q).Pairwise (fun a b => a.doc.key ≠ b.doc.key) := hp2.sublist List.filter_sublist
    rw [rankByS, if_pos ⟨c, ck⟩]
    rw [findS] at hF
    have hFm : ∀ r ∈ rows.filter fun r => meetsM fl r.doc q, r ∈ rows := fun r h => (List.mem_filter.1 h).1
    generalize (rows.filter fun r => meetsM fl r.doc q) = F at *
    have hW1 := withN_len fl f F
    have hW2 := withZ_len fl f F
    have hS1 := sortD_R (withN fl f F) down (hits_ne (fun _ => rfl) hFp) (by omega)
    have hS2 := sortK_R (withZ fl f F) (fun h hh => by obtain ⟨r, _, rfl⟩ := List.mem_map.1 hh; rfl) (hits_ne (fun _ => rfl) hFp) (by omega)
    have hL1 : (sortD down (withN fl f F)).length ≤ 1099511627776 := by rw [sortD_len]; omega
    have hL2 : (sortH (withZ fl f F)).length ≤ 1099511627776 := by rw [sortH_len2]; omega
    refine go24 rfl ?_; simp only [go_sem, ↓reduceIte, Nat.reduceAdd, Nat.reduceSub, Nat.reduceEqDiff, Nat.reduceLT, Nat.reduceLeDiff, Nat.reduceMul, Int.reduceNeg, Int.reduceToNat, Int.reduceEq, Int.reduceLT, Int.reduceLE, reduceCtorEq, Tryz.f24, hfl, hfl1, hr, he, hn, hq, c, eq_true ck, hF]
    refine ends_for F.length (by omega) (fun i _ => mkSt [(2, .str f), (4, .addr 0 0 0), (7, .addr 1 0 0), (9, .own 2), (10, .own 3), (33, .own 4), (34, .int .i64 F.length), (35, .int .i64 i)] [.pto [.sl (fl.map Field.pv), .sl (rows.map DRow.pvF), .sl (ents.map Entry.pvF), .int .i64 nx], .pto [.bool down], .slo 3 ((withN fl f (F.take i)).map Hit.pv), .slo 3 ((withZ fl f (F.take i)).map Hit.pv), .slo 1 ((F.map (·.id)).map (.int .i64))]) (fun _ _ => True) 0 () (by omega) trivial ?_ ?_
    · rintro i _ hi - hw ih
      obtain ⟨r, hx, hg, _⟩ := drop_get hi default
      have ih' := ih () trivial
      have hrm := hFm r (List.mem_of_getElem? hx)
      obtain ⟨j, hj, hj1, hjx⟩ := idIx_at hp3 hrm
      obtain ⟨r', hjx2, hjg, _⟩ := drop_get hj default
      rw [hjx] at hjx2
      obtain rfl := Option.some.inj hjx2
      have hdk := hD.2 r hrm
      have hdm : DSm r.doc := (docOk_st hdk).sm (by omega)
      have hnd : numD fl r.doc f = numDoc fl r.doc f := by rw [numDoc, if_pos hdk]
      have hN := num_R fl r.doc f hfl1 hdm
      rw [hnd] at hN
      have hid : (F.map (·.id))[i]? = some r.id := by rw [List.getElem?_map, hx]; rfl
      have hid2 : (F.map (·.id)).getD i default = r.id := by rw [List.getD_eq_getElem?_getD, hid]; rfl
      have hil : i < (F.map (·.id)).length := by rw [List.length_map]; exact hi
      have hl1 : (withN fl f (F.take i)).length ≤ 1099511627776 := by have := withN_len fl f (F.take i); rw [List.length_take] at this; omega
      have hl2 : (withZ fl f (F.take i)).length ≤ 1099511627776 := by have := withZ_len fl f (F.take i); rw [List.length_take] at this; omega
      rw [withN_succ hx, withZ_succ hx] at ih'
      cases hh : hasN fl f r with
      | true =>
        have hh2 : (numDoc fl r.doc f).2 = true := hh
        rw [hh, if_pos rfl, if_pos rfl, List.append_nil, hitN] at ih'
        simp only [go_sem, ↓reduceIte, Nat.reduceAdd, Nat.reduceSub, Nat.reduceEqDiff, Nat.reduceLT, Nat.reduceLeDiff, Nat.reduceMul, Int.reduceNeg, Int.reduceToNat, Int.reduceEq, Int.reduceLT, Int.reduceLE, reduceCtorEq, hi, hw, hil, hid, hid2, hl, hj1, hj, hjg, hjx, hN, hh2, List.length_map]
        exact ⟨by decide +kernel, by omega, ih'⟩
      | false =>
        have hh2 : (numDoc fl r.doc f).2 = false := hh
        rw [hh, if_neg (by simp), if_neg (by simp), List.append_nil, hitZ] at ih'
        simp only [go_sem, ↓reduceIte, Nat.reduceAdd, Nat.reduceSub, Nat.reduceEqDiff, Nat.reduceLT, Nat.reduceLeDiff, Nat.reduceMul, Int.reduceNeg, Int.reduceToNat, Int.reduceEq, Int.reduceLT, Int.reduceLE, reduceCtorEq, hi, hw, hil, hid, hid2, hl, hj1, hj, hjg, hjx, hN, hh2, List.length_map]
        exact ⟨by decide +kernel, by omega, ih'⟩
    · rintro _ -
      rw [List.take_length]
      simp only [go_sem, ↓reduceIte, Nat.reduceAdd, Nat.reduceSub, Nat.reduceEqDiff, Nat.reduceLT, Nat.reduceLeDiff, Nat.reduceMul, Int.reduceNeg, Int.reduceToNat, Int.reduceEq, Int.reduceLT, Int.reduceLE, reduceCtorEq, hS1, hS2]
      rw [sortD_len, sortH_len2]
      omega
end Go.Proofs.YtgnggcpcijcahaaGreatDoor.PVE
