/- Exact laws of indexes: keys, who is alike, finding. -/
import Derived.Test.YtmanllfmgghadaaGreatDoorT71
import Derived.Test.YtmanllfmgghadaaGreatDoorTI
import Derived.Test.YtmanllfmgghadaaGreatDoorT48
set_option linter.unusedVariables false
set_option linter.unusedSimpArgs false
set_option maxRecDepth 100000
namespace Go.Proofs.YtmanllfmgghadaaGreatDoor.PVE
open PV Query
@[go_sem] theorem eqStringS_R2 (l : List Str) (hl : l.length ≤ 1099511627776) : R S0 15 [.sl (l.map .str), .sl (l.map .str)] = some ⟨[none, none], .bool true⟩ := by
  refine go15 rfl ?_; simp only [go_sem, ↓reduceIte, Nat.reduceAdd, Nat.reduceSub, Nat.reduceEqDiff, Nat.reduceLT, Nat.reduceLeDiff, Nat.reduceMul, Int.reduceNeg, Int.reduceToNat, Int.reduceEq, Int.reduceLT, Int.reduceLE, reduceCtorEq, Tryz.f15]
  refine ends_for l.length (by omega) (fun i _ => mkSt [(0, .sl (l.map .str)), (1, .sl (l.map .str)), (5, .int .i64 i)] []) (fun i _ => True) 0 () (by omega) trivial ?_ ?_
  · rintro i _ hi - hw ih
    obtain ⟨q, hq, hg, hd⟩ := drop_get hi default
    simp only [go_sem, ↓reduceIte, Nat.reduceAdd, Nat.reduceSub, Nat.reduceEqDiff, Nat.reduceLT, Nat.reduceLeDiff, Nat.reduceMul, Int.reduceNeg, Int.reduceToNat, Int.reduceEq, Int.reduceLT, Int.reduceLE, reduceCtorEq, hi, hw, hg]
    exact ih () trivial
  · rintro _ -
    simp only [go_sem, ↓reduceIte, Nat.reduceAdd, Nat.reduceSub, Nat.reduceEqDiff, Nat.reduceLT, Nat.reduceLeDiff, Nat.reduceMul, Int.reduceNeg, Int.reduceToNat, Int.reduceEq, Int.reduceLT, Int.reduceLE, reduceCtorEq]
def wIx (fl : List Field) (rows : List DRow) (ents : List Entry) : Nat := wG (fun _ => 3) fl + wG wRow rows + wG wEntry ents
theorem wRow_le {rows : List DRow} : wG wRow rows ≤ 2 * totG totR rows + 2 * rows.length := by
  induction rows with
  | nil => simp [wG]
  | cons r l ih =>
    have h1 : wRow r = 2 + wG (fun _ => 2) r.doc.cells := rfl
    have h2 := wG_one 2 r.doc.cells
    have h3 : totR r = r.doc.key.length + totC r.doc.cells := rfl
    have h4 := totC_len r.doc.cells
    rw [wG, totG, List.length_cons]
    omega
theorem wPost_le {ps : List Post} : wG wPost ps ≤ 2 * totG totP ps := by
  induction ps with
  | nil => simp [wG]
  | cons x l ih =>
    have h1 : wPost x = 1 + wG (fun _ => 1) x.ats := rfl
    have h2 := wG_one 1 x.ats
    have h3 : totP x = x.ats.length := rfl
    rw [wG, totG]
    omega
theorem wEntry_le {es : List Entry} : wG wEntry es ≤ 2 * totG totE es := by
  induction es with
  | nil => simp [wG]
  | cons x l ih =>
    have h1 : wEntry x = 2 + wG wPost x.posts := rfl
    have h2 := wPost_le (ps := x.posts)
    have h3 : totE x = x.field.length + x.term.length + totG totP x.posts := rfl
    rw [wG, totG]
    omega
theorem wIx_le {fl : List Field} {rows : List DRow} {ents : List Entry} (h : totIx fl rows ents ≤ 1048576) : wIx fl rows ents ≤ 10485760 := by
  have h1 := wRow_le (rows := rows)
  have h2 := wEntry_le (es := ents)
  have h3 := wG_one 3 fl
  have h4 := totF_len fl
  have h5 := totG_len totR rows
  have h6 : totIx fl rows ents = totF fl + totG totR rows + totG totE ents := rfl
  unfold wIx
  omega
theorem markIndex_R (fl : List Field) (rows : List DRow) (ents : List Entry) (nx : Int) (hfl : FSm fl) (hr : RowsM rows) (he : EntSm ents) (k : Nat) (hk : k + wIx fl rows ents ≤ 1099511627776) : R S0 18 [.agg [.slo 3 (fl.map Field.pv), .slo 3 (rows.map DRow.pv), .slo 3 (ents.map Entry.pv), .int .i64 nx], .int .i64 k] = some ⟨[some (.agg [.slo 3 ((mkG mkField (fun _ => 3) k fl).map Field.pv), .slo 3 ((mkG mkRow wRow (k + wG (fun _ => 3) fl) rows).map DRow.pv), .slo 3 ((mkG mkEntry wEntry (k + wG (fun _ => 3) fl + wG wRow rows) ents).map Entry.pv), .int .i64 nx]), none], .int .i64 (k + wIx fl rows ents : Nat)⟩ := by
  unfold wIx at hk ⊢
  have h1 := markFieldS_R fl k (by omega) hfl.1
  have h2 := markRowS_R rows (k + wG (fun _ => 3) fl) (by omega) hr.1 fun r h => (hr.2 r h).2.1
  have h3 := markEntryS_R ents (k + wG (fun _ => 3) fl + wG wRow rows) (by omega) he.1 he.2
  refine go18 rfl ?_; simp only [go_sem, ↓reduceIte, Nat.reduceAdd, Nat.reduceSub, Nat.reduceEqDiff, Nat.reduceLT, Nat.reduceLeDiff, Nat.reduceMul, Int.reduceNeg, Int.reduceToNat, Int.reduceEq, Int.reduceLT, Int.reduceLE, reduceCtorEq, Tryz.f18, h1, h2, h3]
  omega
theorem FnExactKeys_R (fl : List Field) (rows : List DRow) (ents : List Entry) (nx : Int) (ids : List Int) (hI : ILm fl rows ents) (hn : -9223372036854775808 ≤ nx ∧ nx ≤ 9223372036854775807) (hids : ids.length ≤ 9223372036854775807) : R S0 3 [.agg [.sl (fl.map Field.pv), .sl (rows.map DRow.pvF), .sl (ents.map Entry.pvF), .int .i64 nx], .sl (ids.map (PV.int .i64))] = some ⟨[none, none], .bool true⟩ := by
  by_cases c0 : 1048576 < (ids.length : Int)
  · refine go3 rfl ?_; simp only [go_sem, ↓reduceIte, Nat.reduceAdd, Nat.reduceSub, Nat.reduceEqDiff, Nat.reduceLT, Nat.reduceLeDiff, Nat.reduceMul, Int.reduceNeg, Int.reduceToNat, Int.reduceEq, Int.reduceLT, Int.reduceLE, reduceCtorEq, Tryz.f3, c0]
  have s1 := szIndex_R fl rows ents nx hI 1048576 (by omega) (by omega)
  by_cases c1 : szOf (totIx fl rows ents) 1048576 < 0
  · refine go3 rfl ?_; simp only [go_sem, ↓reduceIte, Nat.reduceAdd, Nat.reduceSub, Nat.reduceEqDiff, Nat.reduceLT, Nat.reduceLeDiff, Nat.reduceMul, Int.reduceNeg, Int.reduceToNat, Int.reduceEq, Int.reduceLT, Int.reduceLE, reduceCtorEq, Tryz.f3, c0, s1, c1]
  obtain ⟨c2, _⟩ := szOf_pos c1
  obtain ⟨hfl, hr, he⟩ := ix_sm (fl := fl) (rows := rows) (ents := ents) (by omega)
  have hw := wIx_le (fl := fl) (rows := rows) (ents := ents) (by omega)
  have hib : ids.length ≤ 1099511627776 := by omega
  have t1 := toIndex_R fl rows ents nx hfl hr he
  have q1 := eqIndex_R fl rows ents nx hfl hr he
  have m1 := markIndex_R fl rows ents nx hfl hr he 1 (by omega)
  have m2 := markIntS_R ids (1 + wIx fl rows ents) (by rw [wG_one]; omega) hib
  have hkl : (keysS fl rows ents nx ids).length ≤ 2097152 := by
    rw [keysS]; split
    · rw [List.length_map]
      have := List.length_filter_le (fun r : DRow => ids.contains r.id) rows
      have := totG_len totR rows
      have h6 : totIx fl rows ents = totF fl + totG totR rows + totG totE ents := rfl
      omega
    · simp
  have hkb : (keysS fl rows ents nx ids).length ≤ 1099511627776 := by omega
  have m3 := markStringS_R (keysS fl rows ents nx ids) 1 (by rw [wG_one]; omega) hkb
  have m4 := heldStringS_R (keysS fl rows ents nx ids) 1 (by rw [wG_one]; omega) hkb
  rw [show ((1 : Nat) : Int) = 1 from rfl] at m1 m3 m4
  refine go3 rfl ?_; simp only [go_sem, ↓reduceIte, Nat.reduceAdd, Nat.reduceSub, Nat.reduceEqDiff, Nat.reduceLT, Nat.reduceLeDiff, Nat.reduceMul, Int.reduceNeg, Int.reduceToNat, Int.reduceEq, Int.reduceLT, Int.reduceLE, reduceCtorEq, Tryz.f3, c0, s1, c1, hfl, hr, he, hn, hib, hkb, t1, q1, m1, m2, m3, m4]
  exact ⟨by decide +kernel, fun h => by omega, fun _ => ⟨fun h => by omega, fun _ h => by omega⟩⟩
theorem FnExactAlike_R (fl : List Field) (rows : List DRow) (ents : List Entry) (nx : Int) (k : Str) (hI : ILm fl rows ents) (hn : -9223372036854775808 ≤ nx ∧ nx ≤ 9223372036854775807) (hk : k.length ≤ 9223372036854775807) : R S0 4 [.agg [.sl (fl.map Field.pv), .sl (rows.map DRow.pvF), .sl (ents.map Entry.pvF), .int .i64 nx], .str k] = some ⟨[none, none], .bool true⟩ := by
  by_cases c0 : 1048576 < (k.length : Int)
  · refine go4 rfl ?_; simp only [go_sem, ↓reduceIte, Nat.reduceAdd, Nat.reduceSub, Nat.reduceEqDiff, Nat.reduceLT, Nat.reduceLeDiff, Nat.reduceMul, Int.reduceNeg, Int.reduceToNat, Int.reduceEq, Int.reduceLT, Int.reduceLE, reduceCtorEq, Tryz.f4, c0]
  have s1 := szIndex_R fl rows ents nx hI 1048576 (by omega) (by omega)
  by_cases c1 : szOf (totIx fl rows ents) 1048576 < 0
  · refine go4 rfl ?_; simp only [go_sem, ↓reduceIte, Nat.reduceAdd, Nat.reduceSub, Nat.reduceEqDiff, Nat.reduceLT, Nat.reduceLeDiff, Nat.reduceMul, Int.reduceNeg, Int.reduceToNat, Int.reduceEq, Int.reduceLT, Int.reduceLE, reduceCtorEq, Tryz.f4, c0, s1, c1]
  obtain ⟨c2, _⟩ := szOf_pos c1
  obtain ⟨hfl, hr, he⟩ := ix_sm (fl := fl) (rows := rows) (ents := ents) (by omega)
  have hw := wIx_le (fl := fl) (rows := rows) (ents := ents) (by omega)
  have t1 := toIndex_R fl rows ents nx hfl hr he
  have q1 := eqIndex_R fl rows ents nx hfl hr he
  have m1 := markIndex_R fl rows ents nx hfl hr he 1 (by omega)
  have a1 := implAlike_R fl rows ents nx k hfl hr he hn
  have a2 := specAlike_R fl rows ents nx k hfl hr he hn
  have hal := alikeS_len (fl := fl) (rows := rows) (ents := ents) (nx := nx) (k := k)
  have hab : (alikeS fl rows ents nx k).length ≤ 1099511627776 := by omega
  have m3 := markIntS_R (alikeS fl rows ents nx k) 1 (by rw [wG_one]; omega) hab
  have m4 := heldIntS_R (alikeS fl rows ents nx k) 1 (by rw [wG_one]; omega) hab
  rw [show ((1 : Nat) : Int) = 1 from rfl] at m1 m3 m4
  refine go4 rfl ?_; simp only [go_sem, ↓reduceIte, Nat.reduceAdd, Nat.reduceSub, Nat.reduceEqDiff, Nat.reduceLT, Nat.reduceLeDiff, Nat.reduceMul, Int.reduceNeg, Int.reduceToNat, Int.reduceEq, Int.reduceLT, Int.reduceLE, reduceCtorEq, Tryz.f4, c0, s1, c1, hfl, hr, he, hn, hab, t1, q1, m1, a1, a2, m3, m4]
  repeat' (first | omega | decide +kernel | apply And.intro | intro _)
theorem FnExactFind_R (fl : List Field) (rows : List DRow) (ents : List Entry) (nx : Int) (q : Query) (hI : ILm fl rows ents) (hn : -9223372036854775808 ≤ nx ∧ nx ≤ 9223372036854775807) (hq : q.Lm) : R S0 5 [.agg [.sl (fl.map Field.pv), .sl (rows.map DRow.pvF), .sl (ents.map Entry.pvF), .int .i64 nx], .agg [.int .i64 q.kind, .str q.field, .str q.text, .int .i64 q.low, .int .i64 q.high, .sl (q.parts.map pv)]] = some ⟨[none, none], .bool true⟩ := by
  have s1 := szIndex_R fl rows ents nx hI 1048576 (by omega) (by omega)
  by_cases c1 : szOf (totIx fl rows ents) 1048576 < 0
  · refine go5 rfl ?_; simp only [go_sem, ↓reduceIte, Nat.reduceAdd, Nat.reduceSub, Nat.reduceEqDiff, Nat.reduceLT, Nat.reduceLeDiff, Nat.reduceMul, Int.reduceNeg, Int.reduceToNat, Int.reduceEq, Int.reduceLT, Int.reduceLE, reduceCtorEq, Tryz.f5, s1, c1]
  obtain ⟨c2, c2e⟩ := szOf_pos c1
  have s2 := szQuery_R q hq (szOf (totIx fl rows ents) 1048576) (by omega) (by omega)
  by_cases c3 : szQ q (szOf (totIx fl rows ents) 1048576) < 0
  · refine go5 rfl ?_; simp only [go_sem, ↓reduceIte, Nat.reduceAdd, Nat.reduceSub, Nat.reduceEqDiff, Nat.reduceLT, Nat.reduceLeDiff, Nat.reduceMul, Int.reduceNeg, Int.reduceToNat, Int.reduceEq, Int.reduceLT, Int.reduceLE, reduceCtorEq, Tryz.f5, s1, c1, s2, c3]
  have t2 : tot q ≤ 1048576 := by unfold szQ at c3; split at c3 <;> rename_i h <;> omega
  have hs := sm_of_tot q (by omega)
  obtain ⟨hfl, hr, he⟩ := ix_sm (fl := fl) (rows := rows) (ents := ents) (by omega)
  have hw := wIx_le (fl := fl) (rows := rows) (ents := ents) (by omega)
  have t1 := toIndex_R fl rows ents nx hfl hr he
  have q1 := eqIndex_R fl rows ents nx hfl hr he
  have t3 := toQuery_R q hs
  have q3 := eqQuery_R q hs
  have hnq : nodesL q.parts ≤ 1048576 := by have := nodes_tot q; rw [nodes_eq] at this; omega
  have m1 := markIndex_R fl rows ents nx hfl hr he 1 (by omega)
  have m2 := markQuery_R q hs (1 + wIx fl rows ents) (by omega)
  have hal := findA_len (fl := fl) (rows := rows) (ents := ents) (nx := nx) (q := q)
  have hab : (findA fl rows ents nx q).length ≤ 1099511627776 := by omega
  have m3 := markIntS_R (findA fl rows ents nx q) 1 (by rw [wG_one]; omega) hab
  have m4 := heldIntS_R (findA fl rows ents nx q) 1 (by rw [wG_one]; omega) hab
  rw [show ((1 : Nat) : Int) = 1 from rfl] at m1 m3 m4
  refine go5 rfl ?_; simp only [go_sem, ↓reduceIte, Nat.reduceAdd, Nat.reduceSub, Nat.reduceEqDiff, Nat.reduceLT, Nat.reduceLeDiff, Nat.reduceMul, Int.reduceNeg, Int.reduceToNat, Int.reduceEq, Int.reduceLT, Int.reduceLE, reduceCtorEq, Tryz.f5, s1, c1, s2, c3, hs, hfl, hr, he, hn, hab, t1, q1, t3, q3, m1, m2, m3, m4]
  repeat' (first | omega | decide +kernel | apply And.intro | intro _)
end Go.Proofs.YtmanllfmgghadaaGreatDoor.PVE
