/- Who is alike: the reference; the law. -/
import Derived.Test.YtmanllfmgghadaaGreatDoorTI
set_option linter.unusedVariables false
set_option linter.unusedSimpArgs false
set_option maxRecDepth 100000
namespace Go.Proofs.YtmanllfmgghadaaGreatDoor.PVE
open PV Query
def hasTo (ps : List Post) (i : Int) (n : Nat) : Bool := (ps.take n).any fun p => decide (p.doc = i)
theorem hasTo_succ {ps : List Post} {i : Int} {n : Nat} {x : Post} (hx : ps[n]? = some x) : hasTo ps i (n + 1) = (hasTo ps i n || decide (x.doc = i)) := by
  rw [hasTo, List.take_add_one, hx, List.any_append]; simp [hasTo]
def anyTo (es : List Entry) (i j : Int) (n : Nat) : Bool := (es.take n).any fun e => hasDoc i e && hasDoc j e
theorem anyTo_succ {es : List Entry} {i j : Int} {n : Nat} {x : Entry} (hx : es[n]? = some x) : anyTo es i j (n + 1) = (anyTo es i j n || (hasDoc i x && hasDoc j x)) := by
  rw [anyTo, List.take_add_one, hx, List.any_append]; simp [anyTo]
theorem specAlike_R (fl : List Field) (rows : List DRow) (ents : List Entry) (nx : Int) (k : Str) (hfl : FSm fl) (hr : RowsM rows) (he : EntSm ents) (hn : -9223372036854775808 ≤ nx ∧ nx ≤ 9223372036854775807) : R S0 22 [.agg [.sl (fl.map Field.pv), .sl (rows.map DRow.pvF), .sl (ents.map Entry.pvF), .int .i64 nx], .str k] = some ⟨[none, none], .slo 1 ((alikeS fl rows ents nx k).map (.int .i64))⟩ := by
  have hl : rows.length ≤ 1099511627776 := hr.1
  obtain ⟨hel, hes⟩ := id he
  cases h : indexOkS fl rows ents nx with
  | false =>
    have e : alikeS fl rows ents nx k = [] := by rw [alikeS, if_neg (by rw [h]; simp)]
    rw [e]
    refine go22 rfl ?_; simp only [go_sem, ↓reduceIte, Nat.reduceAdd, Nat.reduceSub, Nat.reduceEqDiff, Nat.reduceLT, Nat.reduceLeDiff, Nat.reduceMul, Int.reduceNeg, Int.reduceToNat, Int.reduceEq, Int.reduceLT, Int.reduceLE, reduceCtorEq, Tryz.f22, hfl, hr, he, hn, h, hl]
  | true =>
    by_cases hk : keyIx rows k < 0
    · have e : alikeS fl rows ents nx k = [] := by rw [alikeS, if_neg (fun c => c.2 hk)]
      rw [e]
      refine go22 rfl ?_; simp only [go_sem, ↓reduceIte, Nat.reduceAdd, Nat.reduceSub, Nat.reduceEqDiff, Nat.reduceLT, Nat.reduceLeDiff, Nat.reduceMul, Int.reduceNeg, Int.reduceToNat, Int.reduceEq, Int.reduceLT, Int.reduceLE, reduceCtorEq, Tryz.f22, hfl, hr, he, hn, h, hl, hk]
    · obtain ⟨_, hp2, _⟩ := rowsOk_iff.1 (indexOk_parts h).1
      obtain ⟨r0, hr0, hk0⟩ : ∃ r ∈ rows, r.doc.key = k := by
        rw [keyIx_neg, Bool.not_eq_false, List.any_eq_true] at hk
        obtain ⟨r, h1, h2⟩ := hk
        exact ⟨r, h1, by simpa using h2⟩
      obtain ⟨a, ha, hk1, hx0⟩ := key_at hp2 hr0
      rw [hk0] at hk1
      obtain ⟨x0, hx00, hg0, _⟩ := drop_get ha default
      rw [hx0] at hx00
      obtain rfl := Option.some.inj hx00
      have e : alikeS fl rows ents nx k = alikeTo rows ents r0.id := by
        rw [alikeS, if_pos ⟨h, hk⟩, hk1]
        simp only [Int.toNat_natCast, hg0]
      rw [e]
      have hst : ∀ i, (alikeTo (rows.take i) ents r0.id).length ≤ 1099511627776 := fun i => by
        have := alikeTo_len (rows.take i) ents r0.id
        simp only [List.length_take] at this; omega
      refine go22 rfl ?_; simp only [go_sem, ↓reduceIte, Nat.reduceAdd, Nat.reduceSub, Nat.reduceEqDiff, Nat.reduceLT, Nat.reduceLeDiff, Nat.reduceMul, Int.reduceNeg, Int.reduceToNat, Int.reduceEq, Int.reduceLT, Int.reduceLE, reduceCtorEq, Tryz.f22, hfl, hr, he, hn, h, hl, hk1, ha, hx0, hg0]
      refine ⟨fun hc => by omega, fun _ => ?_⟩
      refine ends_for rows.length (by omega) (fun i _ => mkSt [(2, .addr 0 0 0), (5, .own 1), (7, .int .i64 r0.id), (8, .int .i64 i)] [.pto [.sl (fl.map Field.pv), .sl (rows.map DRow.pvF), .sl (ents.map Entry.pvF), .int .i64 nx], .slo 1 ((alikeTo (rows.take i) ents r0.id).map (.int .i64))]) (fun _ _ => True) 0 () (by omega) trivial ?_ ?_
      · rintro i _ hi - hw ih
        obtain ⟨x, hx, hg, _⟩ := drop_get hi default
        have iht := ih () trivial
        have hli := hst i
        simp only [go_sem, ↓reduceIte, Nat.reduceAdd, Nat.reduceSub, Nat.reduceEqDiff, Nat.reduceLT, Nat.reduceLeDiff, Nat.reduceMul, Int.reduceNeg, Int.reduceToNat, Int.reduceEq, Int.reduceLT, Int.reduceLE, reduceCtorEq, hi, hw, hg, hx]
        refine ends_for ents.length (by omega) (fun n _ => mkSt [(2, .addr 0 0 0), (5, .own 1), (7, .int .i64 r0.id), (8, .int .i64 i), (9, .bool (anyTo ents r0.id x.id n)), (10, .int .i64 n)] [.pto [.sl (fl.map Field.pv), .sl (rows.map DRow.pvF), .sl (ents.map Entry.pvF), .int .i64 nx], .slo 1 ((alikeTo (rows.take i) ents r0.id).map (.int .i64))]) (fun _ _ => True) 0 () (by omega) trivial ?_ ?_
        · rintro n _ hi2 - hw2 ih2
          obtain ⟨y, hy, hgy, _⟩ := drop_get hi2 default
          have ih2' := ih2 () trivial
          have hps := (hes y (List.mem_of_getElem? hy)).1
          have hN1 : hasTo y.posts r0.id y.posts.length = hasDoc r0.id y := by rw [hasTo, List.take_length, hasDoc]
          have hN2 : hasTo y.posts x.id y.posts.length = hasDoc x.id y := by rw [hasTo, List.take_length, hasDoc]
          rw [anyTo_succ hy] at ih2'
          simp only [go_sem, ↓reduceIte, Nat.reduceAdd, Nat.reduceSub, Nat.reduceEqDiff, Nat.reduceLT, Nat.reduceLeDiff, Nat.reduceMul, Int.reduceNeg, Int.reduceToNat, Int.reduceEq, Int.reduceLT, Int.reduceLE, reduceCtorEq, hi, hw, hg, hx, hi2, hw2, hgy, hy]
          refine ends_for y.posts.length (by omega) (fun j _ => mkSt [(2, .addr 0 0 0), (5, .own 1), (7, .int .i64 r0.id), (8, .int .i64 i), (9, .bool (anyTo ents r0.id x.id n)), (10, .int .i64 n), (11, .bool (hasTo y.posts r0.id j)), (12, .bool (hasTo y.posts x.id j)), (13, .int .i64 j)] [.pto [.sl (fl.map Field.pv), .sl (rows.map DRow.pvF), .sl (ents.map Entry.pvF), .int .i64 nx], .slo 1 ((alikeTo (rows.take i) ents r0.id).map (.int .i64))]) (fun _ _ => True) 0 () (by omega) trivial ?_ ?_
          · rintro j _ hi3 - hw3 ih3
            obtain ⟨z, hz, hgz, _⟩ := drop_get hi3 default
            have ih3' := ih3 () trivial
            rw [hasTo_succ hz, hasTo_succ hz] at ih3'
            cases c1 : hasTo y.posts r0.id j <;> cases c2 : hasTo y.posts x.id j <;> rw [c1, c2] at ih3'
            all_goals
              simp only [go_sem, ↓reduceIte, Nat.reduceAdd, Nat.reduceSub, Nat.reduceEqDiff, Nat.reduceLT, Nat.reduceLeDiff, Nat.reduceMul, Int.reduceNeg, Int.reduceToNat, Int.reduceEq, Int.reduceLT, Int.reduceLE, reduceCtorEq, hi, hw, hg, hx, hi2, hw2, hgy, hy, hi3, hw3, hgz, hz]
              simp only [Bool.false_or, Bool.true_or] at ih3'
              exact ih3'
          · rintro _ -
            rw [hN1, hN2]
            cases c1 : anyTo ents r0.id x.id n <;> cases c2 : hasDoc r0.id y <;> cases c3 : hasDoc x.id y <;> rw [c1, c2, c3] at ih2'
            all_goals
              simp only [go_sem, ↓reduceIte, Nat.reduceAdd, Nat.reduceSub, Nat.reduceEqDiff, Nat.reduceLT, Nat.reduceLeDiff, Nat.reduceMul, Int.reduceNeg, Int.reduceToNat, Int.reduceEq, Int.reduceLT, Int.reduceLE, reduceCtorEq, hi, hw, hg, hx, hi2, hw2, hgy, hy]
              simp only [Bool.false_or, Bool.true_or, Bool.false_and, Bool.true_and] at ih2'
              exact ih2'
        · rintro _ -
          have hN : anyTo ents r0.id x.id ents.length = ents.any fun e => hasDoc r0.id e && hasDoc x.id e := by rw [anyTo, List.take_length]
          rw [hN]
          by_cases c1 : x.id = r0.id
          · have e : alikeTo (rows.take (i + 1)) ents r0.id = alikeTo (rows.take i) ents r0.id := by
              have : alikeP ents r0.id x.id = false := by rw [c1, alikeP_self]
              rw [alikeTo, List.take_add_one, hx, List.filter_append]; simp [this, alikeTo]
            rw [e] at iht
            cases c2 : (ents.any fun e => hasDoc r0.id e && hasDoc x.id e)
            all_goals
              simp only [go_sem, ↓reduceIte, Nat.reduceAdd, Nat.reduceSub, Nat.reduceEqDiff, Nat.reduceLT, Nat.reduceLeDiff, Nat.reduceMul, Int.reduceNeg, Int.reduceToNat, Int.reduceEq, Int.reduceLT, Int.reduceLE, reduceCtorEq, hi, hw, hg, hx, eq_true c1]
              exact iht
          · cases c2 : (ents.any fun e => hasDoc r0.id e && hasDoc x.id e) with
            | false =>
              have e : alikeTo (rows.take (i + 1)) ents r0.id = alikeTo (rows.take i) ents r0.id := by
                have : alikeP ents r0.id x.id = false := by rw [alikeP, c2]; rfl
                rw [alikeTo, List.take_add_one, hx, List.filter_append]; simp [this, alikeTo]
              rw [e] at iht
              simp only [go_sem, ↓reduceIte, Nat.reduceAdd, Nat.reduceSub, Nat.reduceEqDiff, Nat.reduceLT, Nat.reduceLeDiff, Nat.reduceMul, Int.reduceNeg, Int.reduceToNat, Int.reduceEq, Int.reduceLT, Int.reduceLE, reduceCtorEq, hi, hw, hg, hx, c1]
              exact iht
            | true =>
              have e : alikeTo (rows.take (i + 1)) ents r0.id = alikeTo (rows.take i) ents r0.id ++ [x.id] := by
                have : alikeP ents r0.id x.id = true := by rw [alikeP, c2, decide_eq_false c1]; rfl
                rw [alikeTo, List.take_add_one, hx, List.filter_append]; simp [this, alikeTo]
              rw [e] at iht
              simp only [go_sem, ↓reduceIte, Nat.reduceAdd, Nat.reduceSub, Nat.reduceEqDiff, Nat.reduceLT, Nat.reduceLeDiff, Nat.reduceMul, Int.reduceNeg, Int.reduceToNat, Int.reduceEq, Int.reduceLT, Int.reduceLE, reduceCtorEq, hi, hw, hg, hx, c1]
              exact ⟨by omega, iht⟩
      · rintro _ -
        rw [List.take_length]
        simp only [go_sem, ↓reduceIte, Nat.reduceAdd, Nat.reduceSub, Nat.reduceEqDiff, Nat.reduceLT, Nat.reduceLeDiff, Nat.reduceMul, Int.reduceNeg, Int.reduceToNat, Int.reduceEq, Int.reduceLT, Int.reduceLE, reduceCtorEq]
end Go.Proofs.YtmanllfmgghadaaGreatDoor.PVE
