/- Documents by a number: the reference's side, draws, laws. -/
import Derived.Test.YtgnggcpcijcahaaGreatDoorT68
set_option linter.unusedVariables false
set_option linter.unusedSimpArgs false
set_option maxRecDepth 100000
namespace Go.Proofs.YtgnggcpcijcahaaGreatDoor.PVE
open PV Query
theorem numDoc_in {l : List Field} {d : Doc} {n : Str} : -999999999 ≤ (numDoc l d n).1 ∧ (numDoc l d n).1 ≤ 999999999 := by
  by_cases hc : docOk l d = true ∧ (docText d n).2 = true ∧ (fieldOf l n).kind = 2
  · obtain ⟨h1, h2, h3⟩ := hc
    have hk := doc_cell h1 h2
    simp only [cellOk, h3] at hk
    rw [num_same] at hk
    have hn : (numS (docText d n).1).2 = true := by
      cases hn : (numS (docText d n).1).2 with
      | true => rfl
      | false => rw [hn] at hk; simp at hk
    obtain ⟨_, k1, k2, _⟩ := num_of hn
    rw [numDoc_yes h1 h2 h3]
    exact ⟨k1, k2⟩
  · rw [numDoc_no hc]; exact ⟨by decide, by decide⟩
theorem rbTo_in {fl : List Field} {rows : List DRow} {q : Query} {f : Str} {down : Bool} {k : Nat} (hk : k ≤ rows.length) : ∀ x ∈ (rbTo fl rows q f down k).1, -999999999 ≤ x.score ∧ x.score ≤ 999999999 := fun x hx => by
  obtain ⟨y, hy, rfl⟩ := List.mem_map.1 ((rbTo_perm fl rows q f down k hk).1.mem_iff.1 hx)
  obtain ⟨r, hr, rfl⟩ := List.mem_map.1 hy
  have := numDoc_in (l := fl) (d := r.doc) (n := f)
  simp only [sgH, hitN]
  split <;> omega
theorem kind2 {fl : List Field} {f : Str} : ((fl.any fun x => decide (x.name = f)) && decide ((fieldOf fl f).kind = 2)) = decide ((fieldOf fl f).kind = 2) := by
  rcases fieldIx_cases fl f with ⟨_, h, h2⟩ | ⟨_, _, h, _⟩
  · rw [h2, h]; rfl
  · rw [h, Bool.true_and]
theorem specRankBy_R (fl : List Field) (rows : List DRow) (ents : List Entry) (nx : Int) (q : Query) (f : Str) (down : Bool) (hfl : FSm fl) (hr : RowsM rows) (he : EntSm ents) (hn : -9223372036854775808 ≤ nx ∧ nx ≤ 9223372036854775807) (hq : q.Sm) : R S0 26 [.agg [.sl (fl.map Field.pv), .sl (rows.map DRow.pvF), .sl (ents.map Entry.pvF), .int .i64 nx], .agg [.int .i64 q.kind, .str q.field, .str q.text, .int .i64 q.low, .int .i64 q.high, .sl (q.parts.map pv)], .str f, .bool down] = some ⟨[none, none, none, none], .slo 3 ((rankByS fl rows ents nx q f down).map Hit.pv)⟩ := by
  obtain ⟨hfl1, _⟩ := id hfl
  cases c1 : indexOkS fl rows ents nx with
  | false =>
    rw [rankByS_no (.inl (by rw [askOk, c1]; rfl))]
    refine go26 rfl ?_; simp only [go_sem, ↓reduceIte, Nat.reduceAdd, Nat.reduceSub, Nat.reduceEqDiff, Nat.reduceLT, Nat.reduceLeDiff, Nat.reduceMul, Int.reduceNeg, Int.reduceToNat, Int.reduceEq, Int.reduceLT, Int.reduceLE, reduceCtorEq, Tryz.f26, hfl, hr, he, hn, c1]
  | true =>
  cases c2 : (fieldsOk fl && okQ 4 q && fitsI fl q) with
  | false =>
    rw [rankByS_no (.inl (by rw [askOk, c2]; simp))]
    refine go26 rfl ?_; simp only [go_sem, ↓reduceIte, Nat.reduceAdd, Nat.reduceSub, Nat.reduceEqDiff, Nat.reduceLT, Nat.reduceLeDiff, Nat.reduceMul, Int.reduceNeg, Int.reduceToNat, Int.reduceEq, Int.reduceLT, Int.reduceLE, reduceCtorEq, Tryz.f26, hfl, hr, he, hn, c1, hq, c2]
  | true =>
  have c : askOk fl rows ents nx q = true := ask_of c1 c2
  by_cases ck : (fieldOf fl f).kind = 2
  case neg =>
    rw [rankByS_no (.inr ck)]
    have hK := l2Kind_R fl f 2 hfl1
    rw [kind2, decide_eq_false ck] at hK
    refine go26 rfl ?_; simp only [go_sem, ↓reduceIte, Nat.reduceAdd, Nat.reduceSub, Nat.reduceEqDiff, Nat.reduceLT, Nat.reduceLeDiff, Nat.reduceMul, Int.reduceNeg, Int.reduceToNat, Int.reduceEq, Int.reduceLT, Int.reduceLE, reduceCtorEq, Tryz.f26, hfl, hfl1, hr, he, hn, c1, hq, c2, hK]
  have hK := l2Kind_R fl f 2 hfl1
  rw [kind2, decide_eq_true ck] at hK
  obtain ⟨_, _, c3⟩ := ask_parts c
  obtain ⟨_, hp2, hp3⟩ := rowsOk_iff.1 (indexOk_parts c1).1
  have hD := indexOk_rows c1
  obtain ⟨hl, hds⟩ := id hD
  have hend := rbTo_end (fl := fl) (rows := rows) (q := q) (f := f) (down := down) hp2
  rw [rankByS, if_pos ⟨c, ck⟩, ← hend.1, ← hend.2]
  have hin := rbTo_in (fl := fl) (rows := rows) (q := q) (f := f) (down := down) (Nat.le_refl _)
  have hlenE := rbTo_len fl rows q f down rows.length
  refine go26 rfl ?_; simp only [go_sem, ↓reduceIte, Nat.reduceAdd, Nat.reduceSub, Nat.reduceEqDiff, Nat.reduceLT, Nat.reduceLeDiff, Nat.reduceMul, Int.reduceNeg, Int.reduceToNat, Int.reduceEq, Int.reduceLT, Int.reduceLE, reduceCtorEq, Tryz.f26, hfl, hfl1, hr, he, hn, c1, hq, c2, hK]
  refine ends_for rows.length (by omega) (fun i _ => mkSt [(2, .str f), (3, .bool down), (4, .addr 0 0 0), (5, .addr 1 0 0), (9, .own 2), (10, .own 3), (11, .int .i64 i)] [.pto [.sl (fl.map Field.pv), .sl (rows.map DRow.pvF), .sl (ents.map Entry.pvF), .int .i64 nx], .pto [.int .i64 q.kind, .str q.field, .str q.text, .int .i64 q.low, .int .i64 q.high, .sl (q.parts.map pv)], .slo 3 ((rbTo fl rows q f down i).1.map Hit.pv), .slo 3 ((rbTo fl rows q f down i).2.map Hit.pv)]) (fun _ _ => True) 0 () (by omega) trivial ?_ ?_
  · rintro i _ hi - hw ih
    obtain ⟨r, hx, hg, _⟩ := drop_get hi default
    have hd := hds r (List.mem_of_getElem? hx)
    have hsm : DSm r.doc := (docOk_st hd).sm (by omega)
    have hm := specMeets_R6 fl r.doc hfl hsm hd 4 q hq c3
    have hN := specDocNum_R fl r.doc f hfl hsm
    have hlen := rbTo_len fl rows q f down i
    have hl1 : (rbTo fl rows q f down i).1.length ≤ 1099511627776 := by omega
    have hl2 : (rbTo fl rows q f down i).2.length ≤ 1099511627776 := by omega
    have ih' := ih () trivial
    rw [rbTo, hg] at ih'
    cases cm : meetsM fl r.doc q with
    | false =>
      rw [cm] at hm
      rw [cm, if_neg (by simp)] at ih'
      simp only [go_sem, ↓reduceIte, Nat.reduceAdd, Nat.reduceSub, Nat.reduceEqDiff, Nat.reduceLT, Nat.reduceLeDiff, Nat.reduceMul, Int.reduceNeg, Int.reduceToNat, Int.reduceEq, Int.reduceLT, Int.reduceLE, reduceCtorEq, hi, hw, hg, hx, hm, hN]
      exact ih'
    | true =>
      rw [cm] at hm
      rw [cm, if_pos rfl] at ih'
      cases ch : hasN fl f r with
      | false =>
        have ch2 : (numDoc fl r.doc f).2 = false := ch
        rw [ch, if_neg (by simp)] at ih'
        have hP := l7Put_R (rbTo fl rows q f down i).2 (hitZ r) hl2
        simp only [hitZ] at hP ih'
        simp only [go_sem, ↓reduceIte, Nat.reduceAdd, Nat.reduceSub, Nat.reduceEqDiff, Nat.reduceLT, Nat.reduceLeDiff, Nat.reduceMul, Int.reduceNeg, Int.reduceToNat, Int.reduceEq, Int.reduceLT, Int.reduceLE, reduceCtorEq, hi, hw, hg, hx, hm, hN, ch2, hP]
        first | exact ih' | exact ⟨by decide +kernel, ih'⟩
      | true =>
        have ch2 : (numDoc fl r.doc f).2 = true := ch
        rw [ch, if_pos rfl] at ih'
        have hP := l7Put_R (rbTo fl rows q f down i).1 (sgH down (hitN fl f r)) hl1
        simp only [sgH, hitN] at hP ih'
        have hnb := numDoc_in (l := fl) (d := r.doc) (n := f)
        have hneg : IntKind.i64.wrap (0 - (numDoc fl r.doc f).1) = -(numDoc fl r.doc f).1 := by rw [Int.zero_sub]; exact wrap_in (by omega) (by omega)
        cases down
        · simp only [Bool.false_eq_true, if_false] at hP ih'
          simp only [go_sem, ↓reduceIte, Nat.reduceAdd, Nat.reduceSub, Nat.reduceEqDiff, Nat.reduceLT, Nat.reduceLeDiff, Nat.reduceMul, Int.reduceNeg, Int.reduceToNat, Int.reduceEq, Int.reduceLT, Int.reduceLE, reduceCtorEq, hi, hw, hg, hx, hm, hN, ch2, hP, hneg]
          first | exact ih' | exact ⟨by decide +kernel, ih'⟩
        · simp only [if_true] at hP ih'
          simp only [go_sem, ↓reduceIte, Nat.reduceAdd, Nat.reduceSub, Nat.reduceEqDiff, Nat.reduceLT, Nat.reduceLeDiff, Nat.reduceMul, Int.reduceNeg, Int.reduceToNat, Int.reduceEq, Int.reduceLT, Int.reduceLE, reduceCtorEq, hi, hw, hg, hx, hm, hN, ch2, hP, hneg]
          first | exact ih' | exact ⟨by decide +kernel, ih'⟩
  · rintro _ -
    generalize (rbTo fl rows q f down rows.length).1 = A at *
    generalize (rbTo fl rows q f down rows.length).2 = B at *
    simp only [go_sem, ↓reduceIte, Nat.reduceAdd, Nat.reduceSub, Nat.reduceEqDiff, Nat.reduceLT, Nat.reduceLeDiff, Nat.reduceMul, Int.reduceNeg, Int.reduceToNat, Int.reduceEq, Int.reduceLT, Int.reduceLE, reduceCtorEq]
    cases down
    · refine ends_for A.length (by omega) (fun i _ => mkSt [(3, .bool false), (9, .own 0), (10, .own 1), (15, .int .i64 i)] [.slo 3 (((A.take i).map (sgH false) ++ A.drop i).map Hit.pv), .slo 3 (B.map Hit.pv)]) (fun _ _ => True) 0 () (by omega) trivial ?_ ?_
      · rintro i _ hi - hw ih
        obtain ⟨x, hx, hg, hd⟩ := drop_get hi default
        have ih' := ih () trivial
        have hb := hin x (List.mem_of_getElem? hx)
        have hneg : IntKind.i64.wrap (0 - x.score) = -x.score := by rw [Int.zero_sub]; exact wrap_in (by omega) (by omega)
        have htk : A.take (i + 1) = A.take i ++ [x] := by rw [List.take_add_one, hx]; rfl
        have hlen : ((A.take i).map (sgH false)).length = i := by rw [List.length_map, List.length_take]; omega
        have e : (A.take (i + 1)).map (sgH false) ++ A.drop (i + 1) = (A.take i).map (sgH false) ++ sgH false x :: A.drop (i + 1) := by rw [htk]; simp
        rw [e] at ih'
        rw [hd]
        obtain ⟨P, hP⟩ : ∃ P, P = (A.take i).map (sgH false) := ⟨_, rfl⟩
        rw [← hP] at ih' hlen ⊢
        obtain ⟨X, hX⟩ : ∃ X, X = P ++ x :: A.drop (i + 1) := ⟨_, rfl⟩
        rw [← hX]
        have hXl : X.length = A.length := by rw [hX]; simp; omega
        have hx2 : X[i]? = some x := by rw [hX, List.getElem?_append_right (by omega), hlen, Nat.sub_self]; rfl
        have hg2 : X.getD i default = x := by rw [List.getD_eq_getElem?_getD, hx2]; rfl
        have hxi : i < X.length := by omega
        have hset : X.set i (sgH false x) = P ++ sgH false x :: A.drop (i + 1) := by rw [hX, List.set_append_right _ _ (by omega), hlen, Nat.sub_self]; rfl
        rw [← hset] at ih'
        have hXli : (i : Int) < (X.length : Int) := by omega
        have hre : x.pv.reElem 2 [.int .i64 (-x.score)] = (sgH false x).pv := by
          simp [sgH, Hit.pv, PV.reElem]; rfl
        simp only [go_sem, ↓reduceIte, Nat.reduceAdd, Nat.reduceSub, Nat.reduceEqDiff, Nat.reduceLT, Nat.reduceLeDiff, Nat.reduceMul, Int.reduceNeg, Int.reduceToNat, Int.reduceEq, Int.reduceLT, Int.reduceLE, reduceCtorEq, hi, hw, hXl, hx2, hg2, hxi, hneg, hre]
        exact ih'
      · rintro _ -
        rw [List.take_length, List.drop_length, List.append_nil]
        have hAl : (A.map (sgH false)).length ≤ 1099511627776 := by rw [List.length_map]; omega
        have hBl : B.length ≤ 1099511627776 := by omega
        have hAe : (A.map (sgH false)).length = A.length := List.length_map _
        simp only [go_sem, ↓reduceIte, Nat.reduceAdd, Nat.reduceSub, Nat.reduceEqDiff, Nat.reduceLT, Nat.reduceLeDiff, Nat.reduceMul, Int.reduceNeg, Int.reduceToNat, Int.reduceEq, Int.reduceLT, Int.reduceLE, reduceCtorEq, hAe, hAl, hBl]
        omega
    · have e : A.map (sgH true) = A := by
        have : sgH true = id := funext fun h => rfl
        rw [this, List.map_id]
      rw [e]
      have hAl : A.length ≤ 1099511627776 := by omega
      have hBl : B.length ≤ 1099511627776 := by omega
      rw [go_head]
      by_cases h0 : 0 < A.length
      · simp only [go_sem, ↓reduceIte, Nat.reduceAdd, Nat.reduceSub, Nat.reduceEqDiff, Nat.reduceLT, Nat.reduceLeDiff, Nat.reduceMul, Int.reduceNeg, Int.reduceToNat, Int.reduceEq, Int.reduceLT, Int.reduceLE, reduceCtorEq, h0, hAl, hBl]
        first | omega | exact ⟨fun _ => by omega, fun _ => by omega⟩
      · simp only [go_sem, ↓reduceIte, Nat.reduceAdd, Nat.reduceSub, Nat.reduceEqDiff, Nat.reduceLT, Nat.reduceLeDiff, Nat.reduceMul, Int.reduceNeg, Int.reduceToNat, Int.reduceEq, Int.reduceLT, Int.reduceLE, reduceCtorEq, h0, hAl, hBl]
        first | omega | exact ⟨fun _ => by omega, fun _ => by omega⟩
def DRPost (r : Ans) : Prop := ∃ fl : List Field, ∃ rows : List DRow, ∃ ents : List Entry, ∃ nx : Int, ∃ q : Query, ∃ f : Str, ∃ down : Bool, r = ⟨[none], .tup [.agg [.sl (fl.map Field.pv), .sl (rows.map DRow.pvF), .sl (ents.map Entry.pvF), .int .i64 nx], .agg [.int .i64 q.kind, .str q.field, .str q.text, .int .i64 q.low, .int .i64 q.high, .sl (q.parts.map Query.pv)], .str f, .bool down]⟩ ∧ FSm fl ∧ RowsS 21 5 rows ∧ EntSm ents ∧ -1 ≤ nx ∧ nx ≤ 999999999 ∧ q.Sm
theorem drawRankBy_ex (b : Str) : ∃ r, R S0 23 [.sl (b.map bytePV)] = some r ∧ DRPost r := by
  have hb : (b.take 2000).length ≤ 2000 := by simp; omega
  obtain ⟨r1, hr1, fl, rows, ents, nx, q, rfl, hfl, hrs, hes, hn1, hn2, hq⟩ := drawFind_ex b
  have hO := of_R (b.take 2000) 0 [.str [112, 114, 105, 99, 101], .str [112, 114, 105, 99, 101], .str [112, 114, 105, 99, 101], .str [116, 105, 116, 108, 101], .str [110, 111, 110, 101]] rfl (by decide) (by omega) hb
  have hP := pick_R (b.take 2000) 1 2 (by omega) hb
  rw [show ((0 : Nat) : Int) = 0 from rfl, show ((0 + 1 : Nat) : Int) = 1 from rfl] at hO
  rw [show ((1 : Nat) : Int) = 1 from rfl] at hP
  refine (fun ⟨r, h, hp⟩ => ⟨r, go23 rfl h, hp⟩ : (∃ r, Ends S0 _ _ r ∧ _) → _) ?_
  simp only [go_sem, ↓reduceIte, Nat.reduceAdd, Nat.reduceSub, Nat.reduceEqDiff, Nat.reduceLT, Nat.reduceLeDiff, Nat.reduceMul, Int.reduceNeg, Int.reduceToNat, Int.reduceEq, Int.reduceLT, Int.reduceLE, reduceCtorEq, Tryz.f23, hr1, hb, hO, hP, ex_if, ex_bool, ex_and, ex_eq]
  exact ⟨by decide +kernel, fl, rows, ents, nx, q, _, _, rfl, hfl, hrs, hes, hn1, hn2, hq⟩
@[go_sem] theorem sdKind_R (l : List Field) (n : Str) (hl : l.length ≤ 1099511627776) : R S0 27 [.sl (l.map Field.pv), .str n] = some ⟨[none, none], .int .i64 (fieldOf l n).kind⟩ := by
  refine go27 rfl ?_; simp only [go_sem, ↓reduceIte, Nat.reduceAdd, Nat.reduceSub, Nat.reduceEqDiff, Nat.reduceLT, Nat.reduceLeDiff, Nat.reduceMul, Int.reduceNeg, Int.reduceToNat, Int.reduceEq, Int.reduceLT, Int.reduceLE, reduceCtorEq, Tryz.f27]
  refine ends_for l.length (by omega) (fun i _ => mkSt [(0, .sl (l.map Field.pv)), (1, .str n), (5, .int .i64 i)] []) (fun i _ => ∀ y ∈ l.take i, decide (y.name = n) = false) 0 () (by omega) (by simp) ?_ ?_
  · rintro i _ hi hI hw ih
    obtain ⟨x, hx, hg, hd⟩ := drop_get hi default
    by_cases h : x.name = n
    · have e : fieldOf l n = x := by rw [fieldOf, (look_at hI hx (by simpa using h)).1]; rfl
      simp only [go_sem, ↓reduceIte, Nat.reduceAdd, Nat.reduceSub, Nat.reduceEqDiff, Nat.reduceLT, Nat.reduceLeDiff, Nat.reduceMul, Int.reduceNeg, Int.reduceToNat, Int.reduceEq, Int.reduceLT, Int.reduceLE, reduceCtorEq, hi, hw, hg, hx, eq_true h, e]
    · simp only [go_sem, ↓reduceIte, Nat.reduceAdd, Nat.reduceSub, Nat.reduceEqDiff, Nat.reduceLT, Nat.reduceLeDiff, Nat.reduceMul, Int.reduceNeg, Int.reduceToNat, Int.reduceEq, Int.reduceLT, Int.reduceLE, reduceCtorEq, hi, hw, hg, hx, h]
      exact ih () (take_step hI hx (by simpa using h))
  · rintro _ hI
    rw [List.take_length] at hI
    have e : fieldOf l n = ⟨[], 0, 0⟩ := by rw [fieldOf, (look_no hI).1]; rfl
    simp only [go_sem, ↓reduceIte, Nat.reduceAdd, Nat.reduceSub, Nat.reduceEqDiff, Nat.reduceLT, Nat.reduceLeDiff, Nat.reduceMul, Int.reduceNeg, Int.reduceToNat, Int.reduceEq, Int.reduceLT, Int.reduceLE, reduceCtorEq, e]
theorem rankByS_len (fl : List Field) (rows : List DRow) (ents : List Entry) (nx : Int) (q : Query) (f : Str) (down : Bool) : (rankByS fl rows ents nx q f down).length ≤ 8 := by
  by_cases h : askOk fl rows ents nx q = true ∧ (fieldOf fl f).kind = 2
  · obtain ⟨h1, h2⟩ := h
    rw [rankBy_len h1 h2, findA_ids h1]
    exact idsP_len (ask_parts h1).1 _
  · rw [rankByS, if_neg h]; simp
theorem hit_ne {x y : Hit} (h : ¬ x = y) : (decide (x.doc = y.doc) && (decide (x.key = y.key) && decide (x.score = y.score))) = false := by
  cases x; cases y; simp at h ⊢; exact h
@[go_sem] theorem FnRankTurn_R (b : Str) (hb : b.length ≤ 9223372036854775807) : R S0 6 [.sl (b.map bytePV)] = some ⟨[none], .bool true⟩ := by
  by_cases h : 1048576 < (b.length : Int)
  · refine go6 rfl ?_; simp only [go_sem, ↓reduceIte, Nat.reduceAdd, Nat.reduceSub, Nat.reduceEqDiff, Nat.reduceLT, Nat.reduceLeDiff, Nat.reduceMul, Int.reduceNeg, Int.reduceToNat, Int.reduceEq, Int.reduceLT, Int.reduceLE, reduceCtorEq, Tryz.f6, h]
  obtain ⟨r, hr, fl, rows, ents, nx, q, f, down, rfl, hfl, hrs, hes, hn1, hn2, hq⟩ := drawRankBy_ex b
  have hm := hrs.sm (by omega) (by omega)
  have hn : -9223372036854775808 ≤ nx ∧ nx ≤ 9223372036854775807 := by omega
  have e1 := implRankBy_R fl rows ents nx q f down hfl hm hes hn hq
  have e2 := specRankBy_R fl rows ents nx q f down hfl hm hes hn hq
  have e3 := implRankBy_R fl rows ents nx q f (!down) hfl hm hes hn hq
  have hp := rankByS_perm fl rows ents nx q f down (!down)
  have l1 := rankByS_len fl rows ents nx q f down
  have l2 := rankByS_len fl rows ents nx q f (!down)
  generalize rankByS fl rows ents nx q f down = A at *
  generalize rankByS fl rows ents nx q f (!down) = B at *
  have hl := hp.length_eq
  have lA : A.length ≤ 1099511627776 := by omega
  have hl' : (B.length : Int) = (A.length : Int) := by omega
  refine go6 rfl ?_; simp only [go_sem, ↓reduceIte, Nat.reduceAdd, Nat.reduceSub, Nat.reduceEqDiff, Nat.reduceLT, Nat.reduceLeDiff, Nat.reduceMul, Int.reduceNeg, Int.reduceToNat, Int.reduceEq, Int.reduceLT, Int.reduceLE, reduceCtorEq, Tryz.f6, h, hr, hfl, hm, hes, hn, hq, e1, e2, e3, lA]
  refine ends_for A.length (by omega) (fun i _ => mkSt [(7, .own 0), (8, .own 1), (9, .int .i64 i)] [.slo 3 (A.map Hit.pv), .slo 3 (B.map Hit.pv)]) (fun _ _ => True) 0 () (by omega) trivial ?_ ?_
  · rintro i _ hi - hw ih
    obtain ⟨x, hx, hg, _⟩ := drop_get hi default
    have ih' := ih () trivial
    have hin : x ∈ B := hp.mem_iff.1 (List.mem_of_getElem? hx)
    simp only [go_sem, ↓reduceIte, Nat.reduceAdd, Nat.reduceSub, Nat.reduceEqDiff, Nat.reduceLT, Nat.reduceLeDiff, Nat.reduceMul, Int.reduceNeg, Int.reduceToNat, Int.reduceEq, Int.reduceLT, Int.reduceLE, reduceCtorEq, hi, hw, hg, hx]
    refine ends_for B.length (by omega) (fun k _ => mkSt [(7, .own 0), (8, .own 1), (9, .int .i64 i), (10, .bool (decide (x ∈ B.take k))), (11, .int .i64 k)] [.slo 3 (A.map Hit.pv), .slo 3 (B.map Hit.pv)]) (fun _ _ => True) 0 () (by omega) trivial ?_ ?_
    · rintro k _ hk - hwk ihk
      obtain ⟨y, hy, hgy, _⟩ := drop_get hk default
      have ihk' := ihk () trivial
      have hstep : decide (x ∈ B.take (k + 1)) = (decide (x ∈ B.take k) || decide (x = y)) := by
        rw [Bool.eq_iff_iff, List.take_add_one, hy]; simp
      rw [hstep] at ihk'
      cases hc : decide (x ∈ B.take k) with
      | true =>
        rw [hc, Bool.true_or] at ihk'
        simp only [go_sem, ↓reduceIte, Nat.reduceAdd, Nat.reduceSub, Nat.reduceEqDiff, Nat.reduceLT, Nat.reduceLeDiff, Nat.reduceMul, Int.reduceNeg, Int.reduceToNat, Int.reduceEq, Int.reduceLT, Int.reduceLE, reduceCtorEq, hi, hw, hg, hx, hk, hwk, hgy, hy, hc]
        exact ihk'
      | false =>
        rw [hc, Bool.false_or] at ihk'
        by_cases he : y = x
        · subst he
          rw [decide_eq_true rfl] at ihk'
          simp only [go_sem, ↓reduceIte, Nat.reduceAdd, Nat.reduceSub, Nat.reduceEqDiff, Nat.reduceLT, Nat.reduceLeDiff, Nat.reduceMul, Int.reduceNeg, Int.reduceToNat, Int.reduceEq, Int.reduceLT, Int.reduceLE, reduceCtorEq, hi, hw, hg, hx, hk, hwk, hgy, hy, hc]
          exact ihk'
        · rw [decide_eq_false (fun e => he e.symm)] at ihk'
          have hd := hit_ne he
          simp only [go_sem, ↓reduceIte, Nat.reduceAdd, Nat.reduceSub, Nat.reduceEqDiff, Nat.reduceLT, Nat.reduceLeDiff, Nat.reduceMul, Int.reduceNeg, Int.reduceToNat, Int.reduceEq, Int.reduceLT, Int.reduceLE, reduceCtorEq, hi, hw, hg, hx, hk, hwk, hgy, hy, hc, hd]
          exact ihk'
    · rintro _ -
      rw [List.take_length, decide_eq_true hin]
      simp only [go_sem, ↓reduceIte, Nat.reduceAdd, Nat.reduceSub, Nat.reduceEqDiff, Nat.reduceLT, Nat.reduceLeDiff, Nat.reduceMul, Int.reduceNeg, Int.reduceToNat, Int.reduceEq, Int.reduceLT, Int.reduceLE, reduceCtorEq, hi, hw, hg, hx]
      exact ih'
  · rintro _ -
    simp only [go_sem, ↓reduceIte, Nat.reduceAdd, Nat.reduceSub, Nat.reduceEqDiff, Nat.reduceLT, Nat.reduceLeDiff, Nat.reduceMul, Int.reduceNeg, Int.reduceToNat, Int.reduceEq, Int.reduceLT, Int.reduceLE, reduceCtorEq, hl']
end Go.Proofs.YtgnggcpcijcahaaGreatDoor.PVE
