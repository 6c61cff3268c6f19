/- Exact laws of indexes: taking out, putting in. -/
import Derived.Test.YtmanllfmgghadaaGreatDoorT72
set_option linter.unusedVariables false
set_option linter.unusedSimpArgs false
set_option maxRecDepth 100000
namespace Go.Proofs.YtmanllfmgghadaaGreatDoor.PVE
open PV Query
structure IxA where
  fl : List Field
  rows : List DRow
  ents : List Entry
  nx : Int
def dropA (fl : List Field) (rows : List DRow) (ents : List Entry) (nx : Int) (k : Str) : IxA × Bool :=
  if indexOkS fl rows ents nx = true then (if keyIx rows k < 0 then (⟨fl, rows, madeE fl rows, nx⟩, false) else (⟨fl, lessKey rows k, madeE fl (lessKey rows k), nx⟩, true)) else (⟨[], [], [], 0⟩, false)
theorem implDrop_A (fl : List Field) (rows : List DRow) (ents : List Entry) (nx : Int) (k : Str) (hfl : FSm fl) (hr : RowsM rows) (he : EntSm ents) (hn : -9223372036854775808 ≤ nx ∧ nx ≤ 9223372036854775807) : R S0 32 [.agg [.sl (fl.map Field.pv), .sl (rows.map DRow.pvF), .sl (ents.map Entry.pvF), .int .i64 nx], .str k] = some ⟨[none, none], .tup [.agg [.slo 3 ((dropA fl rows ents nx k).1.fl.map Field.pv), .slo 3 ((dropA fl rows ents nx k).1.rows.map DRow.pv), .slo 3 ((dropA fl rows ents nx k).1.ents.map Entry.pv), .int .i64 (dropA fl rows ents nx k).1.nx], .bool (dropA fl rows ents nx k).2]⟩ := by
  cases h : indexOkS fl rows ents nx with
  | false => rw [dropA, h, if_neg (by simp)]; exact implDrop_bad fl rows ents nx k hfl hr he hn h
  | true =>
    by_cases hk : keyIx rows k < 0
    · rw [dropA, h, if_pos rfl, if_pos hk]; exact implDrop_none fl rows ents nx k hfl hr he hn h hk
    · rw [dropA, h, if_pos rfl, if_neg hk]; exact implDrop_ok fl rows ents nx k hfl hr he hn h hk
theorem specDrop_A (fl : List Field) (rows : List DRow) (ents : List Entry) (nx : Int) (k : Str) (hfl : FSm fl) (hr : RowsM rows) (he : EntSm ents) (hn : -9223372036854775808 ≤ nx ∧ nx ≤ 9223372036854775807) : R S0 31 [.agg [.sl (fl.map Field.pv), .sl (rows.map DRow.pvF), .sl (ents.map Entry.pvF), .int .i64 nx], .str k] = some ⟨[none, none], .tup [.agg [.sl ((dropA fl rows ents nx k).1.fl.map Field.pv), .sl ((dropA fl rows ents nx k).1.rows.map DRow.pvF), .sl ((dropA fl rows ents nx k).1.ents.map Entry.pvF), .int .i64 (dropA fl rows ents nx k).1.nx], .bool (dropA fl rows ents nx k).2]⟩ := by
  cases h : indexOkS fl rows ents nx with
  | false => rw [dropA, h, if_neg (by simp)]; exact specDrop_bad fl rows ents nx k hfl hr he hn h
  | true =>
    by_cases hk : keyIx rows k < 0
    · rw [dropA, h, if_pos rfl, if_pos hk]; exact specDrop_none fl rows ents nx k hfl hr he hn h hk
    · rw [dropA, h, if_pos rfl, if_neg hk]; exact specDrop_ok fl rows ents nx k hfl hr he hn h hk
theorem wG_set {α : Type} (w : α → Nat) : ∀ {l : List α} {i : Nat} {x : α} (y : α), l[i]? = some x → wG w (l.set i y) + w x = wG w l + w y
  | a :: l, 0, x, y, h => by
    simp at h; subst h
    rw [List.set_cons_zero, wG, wG]; omega
  | a :: l, i + 1, x, y, h => by
    have := wG_set w (l := l) (i := i) (x := x) y (by simpa using h)
    rw [List.set_cons_succ, wG, wG]; omega
theorem addPost_w (d a : Int) (ps : List Post) : wG wPost (addPost d a ps) ≤ wG wPost ps + 2 := by
  have hnew : wG wPost (ps ++ [⟨d, [a]⟩]) = wG wPost ps + 2 := by rw [wG_app]; rfl
  rw [addPost]
  split
  · rename_i p hp
    split
    · have hx : ps[ps.length - 1]? = some p := by rw [← List.getLast?_eq_getElem?]; exact hp
      have := wG_set wPost (⟨p.doc, p.ats ++ [a]⟩ : Post) hx
      have h1 : wPost (⟨p.doc, p.ats ++ [a]⟩ : Post) = 1 + wG (fun _ => 1) (p.ats ++ [a]) := rfl
      have h2 : wPost p = 1 + wG (fun _ => 1) p.ats := rfl
      rw [wG_one, List.length_append] at h1
      rw [wG_one] at h2
      simp only [List.length_cons, List.length_nil] at h1
      omega
    · omega
  · omega
theorem wordE_w (l : List Entry) (f t : Str) (d a : Int) : wG wEntry (wordE l f t d a) ≤ wG wEntry l + 4 := by
  unfold wordE
  split
  · rename_i hT
    obtain ⟨x, hx, hxf, hxt⟩ := entT_get hT
    have hg : l.getD (entK l f t) default = x := by rw [List.getD_eq_getElem?_getD, hx]; rfl
    rw [hg]
    have h1 := wG_set wEntry (⟨f, t, addPost d a x.posts⟩ : Entry) hx
    have h2 := addPost_w d a x.posts
    have h3 : wEntry (⟨f, t, addPost d a x.posts⟩ : Entry) = 2 + wG wPost (addPost d a x.posts) := rfl
    have h4 : wEntry x = 2 + wG wPost x.posts := rfl
    omega
  · have h1 : wG wEntry l = wG wEntry (l.take (entK l f t)) + wG wEntry (l.drop (entK l f t)) := by rw [← wG_app, List.take_append_drop]
    have h2 : wG wEntry [(⟨f, t, [⟨d, [a]⟩]⟩ : Entry)] = 4 := rfl
    rw [wG_app, wG_app]
    omega
theorem wordsTo_w (f : Str) (id : Int) (ts : List Str) (l : List Entry) : ∀ k, wG wEntry (wordsTo f id ts l k) ≤ wG wEntry l + 4 * k
  | 0 => Nat.le_refl _
  | k + 1 => by
    have ih := wordsTo_w f id ts l k
    rw [wordsTo]
    split
    · omega
    · have := wordE_w (wordsTo f id ts l k) f (ts.getD k default) id k
      omega
theorem cellsTo_w (fl : List Field) (id : Int) (cs : List Cell) (l : List Entry) (hc : ∀ c ∈ cs, c.text.length ≤ 1000) : ∀ k, k ≤ cs.length → wG wEntry (cellsTo fl id cs l k) ≤ wG wEntry l + 4004 * k
  | 0, _ => Nat.le_refl _
  | k + 1, hk => by
    have ih := cellsTo_w fl id cs l hc k (by omega)
    obtain ⟨c, hx, hg, _⟩ := drop_get (l := cs) (i := k) (by omega) default
    have h1 := hc c (List.mem_of_getElem? hx)
    have h2 := words_len2 c.text
    rw [cellsTo, hg]
    split
    · have := wordsTo_w c.name id (terms c.text) (cellsTo fl id cs l k) (terms c.text).length
      omega
    · omega
theorem madeTo_w (fl : List Field) {rows : List DRow} (h : RowsSt rows) : ∀ k, k ≤ rows.length → wG wEntry (madeTo fl rows k) ≤ 4004000 * k
  | 0, _ => Nat.zero_le _
  | k + 1, hk => by
    have ih := madeTo_w fl h k (by omega)
    obtain ⟨r, hx, hg, _⟩ := drop_get (l := rows) (i := k) (by omega) default
    obtain ⟨_, hcl, hcs⟩ := h.2 r (List.mem_of_getElem? hx)
    have := cellsTo_w fl r.id r.doc.cells (madeTo fl rows k) (fun c hc => (hcs c hc).2) _ (Nat.le_refl _)
    rw [madeTo, hg, docE]
    omega
theorem rows_w : ∀ {rows : List DRow}, (∀ r ∈ rows, DSt 1000 r.doc) → wG wRow rows ≤ 2002 * rows.length
  | [], _ => Nat.zero_le _
  | r :: l, h => by
    have ih := rows_w (rows := l) fun x hx => h x (List.mem_cons_of_mem _ hx)
    have h1 : wRow r = 2 + wG (fun _ => 2) r.doc.cells := rfl
    have h2 := (h r (by simp)).2.1
    rw [wG_one] at h1
    rw [wG, List.length_cons]
    omega
theorem made_wIx {fl : List Field} {rows : List DRow} (hf : FSm fl) (hl : fl.length ≤ 1048576) (hr : RowsSt rows) (hm : RowsM rows) : FSm fl ∧ RowsM rows ∧ EntSm (madeE fl rows) ∧ wIx fl rows (madeE fl rows) ≤ 5000000000 := by
  refine ⟨hf, hm, made_sm fl hr, ?_⟩
  have h1 := madeTo_w fl hr rows.length (Nat.le_refl _)
  have h2 := rows_w hr.2
  have h3 := wG_one 3 fl
  have h4 := hr.1
  rw [← madeE] at h1
  unfold wIx
  omega
theorem dropA_sm {fl : List Field} {rows : List DRow} {ents : List Entry} {nx : Int} {k : Str} (hf : FSm fl) (hl : fl.length ≤ 1048576) : FSm (dropA fl rows ents nx k).1.fl ∧ RowsM (dropA fl rows ents nx k).1.rows ∧ EntSm (dropA fl rows ents nx k).1.ents ∧ wIx (dropA fl rows ents nx k).1.fl (dropA fl rows ents nx k).1.rows (dropA fl rows ents nx k).1.ents ≤ 5000000000 := by
  unfold dropA
  split
  · rename_i h
    have h1 := indexOk_st h
    split
    · exact made_wIx hf hl (h1.st (by omega) (by omega)) (h1.sm (by omega) (by omega))
    · have h2 := h1.less k
      exact made_wIx hf hl (h2.st (by omega) (by omega)) (h2.sm (by omega) (by omega))
  · exact ⟨⟨by simp, by simp⟩, ⟨by simp, by simp⟩, ⟨by simp, by simp⟩, by simp [wIx, wG]⟩
theorem FnExactIndexDrop_R (fl : List Field) (rows : List DRow) (ents : List Entry) (nx : Int) (k : Str) (hI : ILm fl rows ents) (hn : -9223372036854775808 ≤ nx ∧ nx ≤ 9223372036854775807) (hk : k.length ≤ 9223372036854775807) : R S0 6 [.agg [.sl (fl.map Field.pv), .sl (rows.map DRow.pvF), .sl (ents.map Entry.pvF), .int .i64 nx], .str k] = some ⟨[none, none], .bool true⟩ := by
  by_cases c0 : 1048576 < (k.length : Int)
  · refine go6 rfl ?_; simp only [go_sem, ↓reduceIte, Nat.reduceAdd, Nat.reduceSub, Nat.reduceEqDiff, Nat.reduceLT, Nat.reduceLeDiff, Nat.reduceMul, Int.reduceNeg, Int.reduceToNat, Int.reduceEq, Int.reduceLT, Int.reduceLE, reduceCtorEq, Tryz.f6, c0]
  have s1 := szIndex_R fl rows ents nx hI 1048576 (by omega) (by omega)
  by_cases c1 : szOf (totIx fl rows ents) 1048576 < 0
  · refine go6 rfl ?_; simp only [go_sem, ↓reduceIte, Nat.reduceAdd, Nat.reduceSub, Nat.reduceEqDiff, Nat.reduceLT, Nat.reduceLeDiff, Nat.reduceMul, Int.reduceNeg, Int.reduceToNat, Int.reduceEq, Int.reduceLT, Int.reduceLE, reduceCtorEq, Tryz.f6, c0, s1, c1]
  obtain ⟨c2, _⟩ := szOf_pos c1
  obtain ⟨hfl, hr, he⟩ := ix_sm (fl := fl) (rows := rows) (ents := ents) (by omega)
  have hfl8 : fl.length ≤ 1048576 := by
    have := totF_len fl
    have h6 : totIx fl rows ents = totF fl + totG totR rows + totG totE ents := rfl
    omega
  have hw := wIx_le (fl := fl) (rows := rows) (ents := ents) (by omega)
  have t1 := toIndex_R fl rows ents nx hfl hr he
  have q1 := eqIndex_R fl rows ents nx hfl hr he
  have m1 := markIndex_R fl rows ents nx hfl hr he 1 (by omega)
  have a1 := implDrop_A fl rows ents nx k hfl hr he hn
  have a2 := specDrop_A fl rows ents nx k hfl hr he hn
  obtain ⟨b1, b2, b3, b4⟩ := dropA_sm (rows := rows) (ents := ents) (nx := nx) (k := k) hfl hfl8
  generalize dropA fl rows ents nx k = A at *
  obtain ⟨⟨fl2, rows2, ents2, nx2⟩, ok2⟩ := A
  simp only at a1 a2 b1 b2 b3 b4
  have q2 := eqIndex_R fl2 rows2 ents2 nx2 b1 b2 b3
  have m2 := markIndex_R fl2 rows2 ents2 nx2 b1 b2 b3 1 (by omega)
  have m3 := heldIndex_R fl2 rows2 ents2 nx2 b1 b2 b3 1 (by omega)
  rw [show ((1 : Nat) : Int) = 1 from rfl] at m1 m2 m3
  refine go6 rfl ?_; simp only [go_sem, ↓reduceIte, Nat.reduceAdd, Nat.reduceSub, Nat.reduceEqDiff, Nat.reduceLT, Nat.reduceLeDiff, Nat.reduceMul, Int.reduceNeg, Int.reduceToNat, Int.reduceEq, Int.reduceLT, Int.reduceLE, reduceCtorEq, Tryz.f6, c0, s1, c1, hfl, hr, he, hn, t1, q1, m1, a1, a2, q2, m2, m3]
  repeat' (first | omega | decide +kernel | apply And.intro | intro _)
def putA (fl : List Field) (rows : List DRow) (ents : List Entry) (nx : Int) (d : Doc) : IxA × Int × Bool :=
  if indexOkS fl rows ents nx = true then (if canPut fl rows nx d = true then (⟨fl, putRows rows nx d, madeE fl (putRows rows nx d), nx + 1⟩, nx, true) else (⟨fl, rows, madeE fl rows, nx⟩, 0, false)) else (⟨[], [], [], 0⟩, 0, false)
theorem implPut_A (fl : List Field) (rows : List DRow) (ents : List Entry) (nx : Int) (d : Doc) (hfl : FSm fl) (hr : RowsM rows) (he : EntSm ents) (hn : -9223372036854775808 ≤ nx ∧ nx ≤ 9223372036854775807) (hd : DSm d) : R S0 37 [.agg [.sl (fl.map Field.pv), .sl (rows.map DRow.pvF), .sl (ents.map Entry.pvF), .int .i64 nx], .agg [.str d.key, .sl (d.cells.map Cell.pv)]] = some ⟨[none, none], .tup [.agg [.slo 3 ((putA fl rows ents nx d).1.fl.map Field.pv), .slo 3 ((putA fl rows ents nx d).1.rows.map DRow.pv), .slo 3 ((putA fl rows ents nx d).1.ents.map Entry.pv), .int .i64 (putA fl rows ents nx d).1.nx], .int .i64 (putA fl rows ents nx d).2.1, .bool (putA fl rows ents nx d).2.2]⟩ := by
  cases h : indexOkS fl rows ents nx with
  | false => rw [putA, h, if_neg (by simp)]; exact implPut_bad fl rows ents nx d hfl hr he hn hd h
  | true =>
    cases hc : canPut fl rows nx d with
    | true => rw [putA, h, hc, if_pos rfl, if_pos rfl]; exact implPut_ok fl rows ents nx d hfl hr he hn hd h hc
    | false => rw [putA, h, hc, if_pos rfl, if_neg (by simp)]; exact implPut_none fl rows ents nx d hfl hr he hn hd h hc
theorem specPut_A (fl : List Field) (rows : List DRow) (ents : List Entry) (nx : Int) (d : Doc) (hfl : FSm fl) (hr : RowsM rows) (he : EntSm ents) (hn : -9223372036854775808 ≤ nx ∧ nx ≤ 9223372036854775807) (hd : DSm d) : R S0 35 [.agg [.sl (fl.map Field.pv), .sl (rows.map DRow.pvF), .sl (ents.map Entry.pvF), .int .i64 nx], .agg [.str d.key, .sl (d.cells.map Cell.pv)]] = some ⟨[none, none], .tup [.agg [.sl ((putA fl rows ents nx d).1.fl.map Field.pv), .sl ((putA fl rows ents nx d).1.rows.map DRow.pvF), .sl ((putA fl rows ents nx d).1.ents.map Entry.pvF), .int .i64 (putA fl rows ents nx d).1.nx], .int .i64 (putA fl rows ents nx d).2.1, .bool (putA fl rows ents nx d).2.2]⟩ := by
  cases h : indexOkS fl rows ents nx with
  | false => rw [putA, h, if_neg (by simp)]; exact specPut_bad fl rows ents nx d hfl hr he hn hd h
  | true =>
    cases hc : canPut fl rows nx d with
    | true => rw [putA, h, hc, if_pos rfl, if_pos rfl]; exact specPut_ok fl rows ents nx d hfl hr he hn hd h hc
    | false => rw [putA, h, hc, if_pos rfl, if_neg (by simp)]; exact specPut_none fl rows ents nx d hfl hr he hn hd h hc
theorem putA_sm {fl : List Field} {rows : List DRow} {ents : List Entry} {nx : Int} {d : Doc} (hf : FSm fl) (hl : fl.length ≤ 1048576) : FSm (putA fl rows ents nx d).1.fl ∧ RowsM (putA fl rows ents nx d).1.rows ∧ EntSm (putA fl rows ents nx d).1.ents ∧ wIx (putA fl rows ents nx d).1.fl (putA fl rows ents nx d).1.rows (putA fl rows ents nx d).1.ents ≤ 5000000000 := by
  unfold putA
  split
  · rename_i h
    split
    · rename_i hc
      have h1 := indexOk_st (putOk h hc)
      exact made_wIx hf hl (h1.st (by omega) (by omega)) (h1.sm (by omega) (by omega))
    · have h1 := indexOk_st h
      exact made_wIx hf hl (h1.st (by omega) (by omega)) (h1.sm (by omega) (by omega))
  · exact ⟨⟨by simp, by simp⟩, ⟨by simp, by simp⟩, ⟨by simp, by simp⟩, by simp [wIx, wG]⟩
theorem markDoc_R (d : Doc) (k : Nat) (hk : k + wG (fun _ => 2) d.cells ≤ 1099511627776) (hl : d.cells.length ≤ 1099511627776) : R S0 39 [.agg [.str d.key, .slo 2 (d.cells.map Cell.pv)], .int .i64 k] = some ⟨[some (.agg [.str d.key, .slo 2 ((mkG mkCell (fun _ => 2) k d.cells).map Cell.pv)]), none], .int .i64 (k + wG (fun _ => 2) d.cells : Nat)⟩ := by
  have h := markCellS_R d.cells k hk hl
  refine go39 rfl ?_; simp only [go_sem, ↓reduceIte, Nat.reduceAdd, Nat.reduceSub, Nat.reduceEqDiff, Nat.reduceLT, Nat.reduceLeDiff, Nat.reduceMul, Int.reduceNeg, Int.reduceToNat, Int.reduceEq, Int.reduceLT, Int.reduceLE, reduceCtorEq, Tryz.f39, h]
theorem FnExactIndexPut_R (fl : List Field) (rows : List DRow) (ents : List Entry) (nx : Int) (d : Doc) (hI : ILm fl rows ents) (hn : -9223372036854775808 ≤ nx ∧ nx ≤ 9223372036854775807) (hd : DLm d) : R S0 7 [.agg [.sl (fl.map Field.pv), .sl (rows.map DRow.pvF), .sl (ents.map Entry.pvF), .int .i64 nx], .agg [.str d.key, .sl (d.cells.map Cell.pv)]] = some ⟨[none, none], .bool true⟩ := by
  have s1 := szIndex_R fl rows ents nx hI 1048576 (by omega) (by omega)
  by_cases c1 : szOf (totIx fl rows ents) 1048576 < 0
  · refine go7 rfl ?_; simp only [go_sem, ↓reduceIte, Nat.reduceAdd, Nat.reduceSub, Nat.reduceEqDiff, Nat.reduceLT, Nat.reduceLeDiff, Nat.reduceMul, Int.reduceNeg, Int.reduceToNat, Int.reduceEq, Int.reduceLT, Int.reduceLE, reduceCtorEq, Tryz.f7, s1, c1]
  obtain ⟨c2, c2e⟩ := szOf_pos c1
  have s2 := szDoc_R d hd (szOf (totIx fl rows ents) 1048576) (by omega) (by omega)
  by_cases c3 : szD d (szOf (totIx fl rows ents) 1048576) < 0
  · refine go7 rfl ?_; simp only [go_sem, ↓reduceIte, Nat.reduceAdd, Nat.reduceSub, Nat.reduceEqDiff, Nat.reduceLT, Nat.reduceLeDiff, Nat.reduceMul, Int.reduceNeg, Int.reduceToNat, Int.reduceEq, Int.reduceLT, Int.reduceLE, reduceCtorEq, Tryz.f7, s1, c1, s2, c3]
  have t2 : totD d ≤ 1048576 := by unfold szD at c3; split at c3 <;> rename_i h <;> omega
  have hs := dsm_of_tot (d := d) (by omega)
  have hcl : d.cells.length ≤ 1048576 := by
    have := totC_len d.cells
    have h6 : totD d = d.key.length + totC d.cells := rfl
    omega
  have hcb : d.cells.length ≤ 1099511627776 := by omega
  obtain ⟨hfl, hr, he⟩ := ix_sm (fl := fl) (rows := rows) (ents := ents) (by omega)
  have hfl8 : fl.length ≤ 1048576 := by
    have := totF_len fl
    have h6 : totIx fl rows ents = totF fl + totG totR rows + totG totE ents := rfl
    omega
  have hw := wIx_le (fl := fl) (rows := rows) (ents := ents) (by omega)
  have hwd := wG_one 2 d.cells
  have t1 := toIndex_R fl rows ents nx hfl hr he
  have q1 := eqIndex_R fl rows ents nx hfl hr he
  have m1 := markIndex_R fl rows ents nx hfl hr he 1 (by omega)
  have m5 := markDoc_R d (1 + wIx fl rows ents) (by omega) hcb
  have a1 := implPut_A fl rows ents nx d hfl hr he hn hs
  have a2 := specPut_A fl rows ents nx d hfl hr he hn hs
  obtain ⟨b1, b2, b3, b4⟩ := putA_sm (rows := rows) (ents := ents) (nx := nx) (d := d) hfl hfl8
  generalize putA fl rows ents nx d = A at *
  obtain ⟨⟨fl2, rows2, ents2, nx2⟩, id2, ok2⟩ := A
  simp only at a1 a2 b1 b2 b3 b4
  have q2 := eqIndex_R fl2 rows2 ents2 nx2 b1 b2 b3
  have m2 := markIndex_R fl2 rows2 ents2 nx2 b1 b2 b3 1 (by omega)
  have m3 := heldIndex_R fl2 rows2 ents2 nx2 b1 b2 b3 1 (by omega)
  rw [show ((1 : Nat) : Int) = 1 from rfl] at m1 m2 m3
  refine go7 rfl ?_; simp only [go_sem, ↓reduceIte, Nat.reduceAdd, Nat.reduceSub, Nat.reduceEqDiff, Nat.reduceLT, Nat.reduceLeDiff, Nat.reduceMul, Int.reduceNeg, Int.reduceToNat, Int.reduceEq, Int.reduceLT, Int.reduceLE, reduceCtorEq, Tryz.f7, s1, c1, s2, c3, hs, hcb, hfl, hr, he, hn, t1, q1, m1, m5, a1, a2, q2, m2, m3]
  repeat' (first | omega | decide +kernel | apply And.intro | intro _)
end Go.Proofs.YtmanllfmgghadaaGreatDoor.PVE
