/- Exact laws of indexes: keys, who is alike, finding. -/
import Derived.Test.YtmanllfmgghadaaGreatDoorT71
import Derived.Test.YtmanllfmgghadaaGreatDoorTI
import Derived.Test.YtmanllfmgghadaaGreatDoorT48
set_option linter.unusedVariables false
set_option linter.unusedSimpArgs false
set_option maxRecDepth 100000
namespace Go.Proofs.YtmanllfmgghadaaGreatDoor.PVE
open PV Query
def wIx (fl : List Field) (rows : List DRow) (ents : List Entry) : Nat := wG (fun _ => 3) fl + wG wRow rows + wG wEntry ents
theorem wRow_le {rows : List DRow} : wG wRow rows ≤ 2 * totG totR rows + 2 * rows.length := by
  induction rows with
  | nil => simp [wG]
  | cons r l ih =>
    have h1 : wRow r = 2 + wG (fun _ => 2) r.doc.cells := rfl
    have h2 := wG_one 2 r.doc.cells
    have h3 : totR r = r.doc.key.length + totC r.doc.cells := rfl
    have h4 := totC_len r.doc.cells
    rw [wG, totG, List.length_cons]
    omega
theorem wPost_le {ps : List Post} : wG wPost ps ≤ 2 * totG totP ps := by
  induction ps with
  | nil => simp [wG]
  | cons x l ih =>
    have h1 : wPost x = 1 + wG (fun _ => 1) x.ats := rfl
    have h2 := wG_one 1 x.ats
    have h3 : totP x = x.ats.length := rfl
    rw [wG, totG]
    omega
theorem wEntry_le {es : List Entry} : wG wEntry es ≤ 2 * totG totE es := by
  induction es with
  | nil => simp [wG]
  | cons x l ih =>
    have h1 : wEntry x = 2 + wG wPost x.posts := rfl
    have h2 := wPost_le (ps := x.posts)
    have h3 : totE x = x.field.length + x.term.length + totG totP x.posts := rfl
    rw [wG, totG]
    omega
theorem wIx_le {fl : List Field} {rows : List DRow} {ents : List Entry} (h : totIx fl rows ents ≤ 1048576) : wIx fl rows ents ≤ 10485760 := by
  have h1 := wRow_le (rows := rows)
  have h2 := wEntry_le (es := ents)
  have h3 := wG_one 3 fl
  have h4 := totF_len fl
  have h5 := totG_len totR rows
  have h6 : totIx fl rows ents = totF fl + totG totR rows + totG totE ents := rfl
  unfold wIx
  omega
theorem markIndex_R (fl : List Field) (rows : List DRow) (ents : List Entry) (nx : Int) (hfl : FSm fl) (hr : RowsM rows) (he : EntSm ents) (k : Nat) (hk : k + wIx fl rows ents ≤ 1099511627776) : R S0 18 [.agg [.slo 3 (fl.map Field.pv), .slo 3 (rows.map DRow.pv), .slo 3 (ents.map Entry.pv), .int .i64 nx], .int .i64 k] = some ⟨[some (.agg [.slo 3 ((mkG mkField (fun _ => 3) k fl).map Field.pv), .slo 3 ((mkG mkRow wRow (k + wG (fun _ => 3) fl) rows).map DRow.pv), .slo 3 ((mkG mkEntry wEntry (k + wG (fun _ => 3) fl + wG wRow rows) ents).map Entry.pv), .int .i64 nx]), none], .int .i64 (k + wIx fl rows ents : Nat)⟩ := by
  unfold wIx at hk ⊢
  have h1 := markFieldS_R fl k (by omega) hfl.1
  have h2 := markRowS_R rows (k + wG (fun _ => 3) fl) (by omega) hr.1 fun r h => (hr.2 r h).2.1
  have h3 := markEntryS_R ents (k + wG (fun _ => 3) fl + wG wRow rows) (by omega) he.1 he.2
  refine go18 rfl ?_; simp only [go_sem, ↓reduceIte, Nat.reduceAdd, Nat.reduceSub, Nat.reduceEqDiff, Nat.reduceLT, Nat.reduceLeDiff, Nat.reduceMul, Int.reduceNeg, Int.reduceToNat, Int.reduceEq, Int.reduceLT, Int.reduceLE, reduceCtorEq, Tryz.f18, h1, h2, h3]
  omega
theorem heldIndex_R (fl : List Field) (rows : List DRow) (ents : List Entry) (nx : Int) (hfl : FSm fl) (hr : RowsM rows) (he : EntSm ents) (k : Nat) (hk : k + wIx fl rows ents ≤ 1099511627776) : R S0 33 [.agg [.sl ((mkG mkField (fun _ => 3) k fl).map Field.pv), .sl ((mkG mkRow wRow (k + wG (fun _ => 3) fl) rows).map DRow.pvF), .sl ((mkG mkEntry wEntry (k + wG (fun _ => 3) fl + wG wRow rows) ents).map Entry.pvF), .int .i64 nx], .int .i64 k] = some ⟨[none, none], .int .i64 (k + wIx fl rows ents : Nat)⟩ := by
  unfold wIx at hk ⊢
  have h1 := heldFieldS_R fl k (by omega) hfl.1
  have h2 := heldRowS_R rows (k + wG (fun _ => 3) fl) (by omega) hr.1 fun r h => (hr.2 r h).2.1
  have h3 := heldEntryS_R ents (k + wG (fun _ => 3) fl + wG wRow rows) (by omega) he.1 he.2
  have b1 : ¬ ((k + wG (fun _ => 3) fl : Nat) : Int) < 0 := by omega
  have b2 : ¬ ((k + wG (fun _ => 3) fl + wG wRow rows : Nat) : Int) < 0 := by omega
  have b3 : ¬ ((k + wG (fun _ => 3) fl + wG wRow rows + wG wEntry ents : Nat) : Int) < 0 := by omega
  refine go33 rfl ?_; simp only [go_sem, ↓reduceIte, Nat.reduceAdd, Nat.reduceSub, Nat.reduceEqDiff, Nat.reduceLT, Nat.reduceLeDiff, Nat.reduceMul, Int.reduceNeg, Int.reduceToNat, Int.reduceEq, Int.reduceLT, Int.reduceLE, reduceCtorEq, Tryz.f33, h1, h2, h3, b1, b2, b3]
  omega
end Go.Proofs.YtmanllfmgghadaaGreatDoor.PVE
