/- The index: comparing, finding, leaving out, building (reference). -/
import Derived.Test.YtjagjfjhinlgiaaGreatDoorT24
set_option linter.unusedVariables false
set_option linter.unusedSimpArgs false
set_option maxRecDepth 100000
namespace Go.Proofs.YtjagjfjhinlgiaaGreatDoor.PVE
open PV
deriving instance DecidableEq for Post, Entry
@[go_sem] theorem l4Ints_R (a b : List Int) (ha : a.length ≤ 1099511627776) (hb : b.length ≤ 1099511627776) : R S0 105 [.sl (a.map (.int .i64)), .sl (b.map (.int .i64))] = some ⟨[none, none], .bool (decide (a = b))⟩ := by
  by_cases h : a.length = b.length
  · have h2 : (a.length : Int) = b.length := by omega
    refine go105 rfl ?_; simp only [go_sem, ↓reduceIte, Nat.reduceAdd, Nat.reduceSub, Nat.reduceEqDiff, Nat.reduceLT, Nat.reduceLeDiff, Nat.reduceMul, Int.reduceNeg, Int.reduceToNat, Int.reduceEq, Int.reduceLT, Int.reduceLE, reduceCtorEq, Tryz.f105, h2]
    refine ends_for b.length (by omega) (fun i _ => mkSt [(0, .sl (a.map (.int .i64))), (1, .sl (b.map (.int .i64))), (5, .int .i64 i)] []) (fun i _ => a.take i = b.take i) 0 () (by omega) rfl ?_ ?_
    · rintro i _ hi hI hw ih
      obtain ⟨y, hy, hg, _⟩ := drop_get hi default
      have hia : i < a.length := by omega
      obtain ⟨x, hx, hgx, _⟩ := drop_get hia default
      have h3 : (i : Int) < (a.length : Int) := by omega
      by_cases he : x = y
      · subst he
        simp only [go_sem, ↓reduceIte, Nat.reduceAdd, Nat.reduceSub, Nat.reduceEqDiff, Nat.reduceLT, Nat.reduceLeDiff, Nat.reduceMul, Int.reduceNeg, Int.reduceToNat, Int.reduceEq, Int.reduceLT, Int.reduceLE, reduceCtorEq, hi, h2, hw, hg, hia, hgx, hx, hy]
        exact ih () (by rw [List.take_add_one, List.take_add_one, hx, hy, hI])
      · have hne : ¬ a = b := by
          rintro rfl
          rw [hx] at hy
          exact he (Option.some.inj hy)
        simp only [go_sem, ↓reduceIte, Nat.reduceAdd, Nat.reduceSub, Nat.reduceEqDiff, Nat.reduceLT, Nat.reduceLeDiff, Nat.reduceMul, Int.reduceNeg, Int.reduceToNat, Int.reduceEq, Int.reduceLT, Int.reduceLE, reduceCtorEq, hi, h2, hw, hg, hia, hgx, he, hx, hy]
        rw [decide_eq_false hne]
    · rintro _ hI
      rw [List.take_length, List.take_of_length_le (by omega)] at hI
      simp only [go_sem, ↓reduceIte, Nat.reduceAdd, Nat.reduceSub, Nat.reduceEqDiff, Nat.reduceLT, Nat.reduceLeDiff, Nat.reduceMul, Int.reduceNeg, Int.reduceToNat, Int.reduceEq, Int.reduceLT, Int.reduceLE, reduceCtorEq, h2]
      rw [decide_eq_true hI]
  · have h2 : ¬ (a.length : Int) = b.length := by omega
    have hne : ¬ a = b := fun e => h (by rw [e])
    refine go105 rfl ?_; simp only [go_sem, ↓reduceIte, Nat.reduceAdd, Nat.reduceSub, Nat.reduceEqDiff, Nat.reduceLT, Nat.reduceLeDiff, Nat.reduceMul, Int.reduceNeg, Int.reduceToNat, Int.reduceEq, Int.reduceLT, Int.reduceLE, reduceCtorEq, Tryz.f105, h2]
    rw [decide_eq_false hne]
def EntSm (l : List Entry) : Prop := l.length ≤ 1099511627776 ∧ ∀ e ∈ l, e.posts.length ≤ 1099511627776 ∧ ∀ p ∈ e.posts, p.ats.length ≤ 1099511627776
@[go_sem] theorem l4Same_R (a b : List Entry) (ha : EntSm a) (hb : EntSm b) : R S0 53 [.sl (a.map Entry.pvF), .sl (b.map Entry.pvF)] = some ⟨[none, none], .bool (decide (a = b))⟩ := by
  obtain ⟨ha1, ha2⟩ := id ha
  obtain ⟨hb1, hb2⟩ := id hb
  by_cases h : a.length = b.length
  case neg =>
    have h2 : ¬ (a.length : Int) = b.length := by omega
    have hne : ¬ a = b := fun e => h (by rw [e])
    refine go53 rfl ?_; simp only [go_sem, ↓reduceIte, Nat.reduceAdd, Nat.reduceSub, Nat.reduceEqDiff, Nat.reduceLT, Nat.reduceLeDiff, Nat.reduceMul, Int.reduceNeg, Int.reduceToNat, Int.reduceEq, Int.reduceLT, Int.reduceLE, reduceCtorEq, Tryz.f53, h2]
    rw [decide_eq_false hne]
  have h2 : (a.length : Int) = b.length := by omega
  refine go53 rfl ?_; simp only [go_sem, ↓reduceIte, Nat.reduceAdd, Nat.reduceSub, Nat.reduceEqDiff, Nat.reduceLT, Nat.reduceLeDiff, Nat.reduceMul, Int.reduceNeg, Int.reduceToNat, Int.reduceEq, Int.reduceLT, Int.reduceLE, reduceCtorEq, Tryz.f53, h2]
  refine ends_for b.length (by omega) (fun i _ => mkSt [(0, .sl (a.map Entry.pvF)), (1, .sl (b.map Entry.pvF)), (5, .int .i64 i)] []) (fun i _ => a.take i = b.take i) 0 () (by omega) rfl ?_ ?_
  · rintro i _ hi hI hw ih
    obtain ⟨y, hy, hg, _⟩ := drop_get hi default
    have hia : i < a.length := by omega
    obtain ⟨x, hx, hgx, _⟩ := drop_get hia default
    obtain ⟨hx1, hx2⟩ := ha2 x (List.mem_of_getElem? hx)
    obtain ⟨hy1, hy2⟩ := hb2 y (List.mem_of_getElem? hy)
    have hne : ¬ x = y → ¬ a = b := by
      rintro he rfl
      rw [hx] at hy
      exact he (Option.some.inj hy)
    by_cases e1 : x.field = y.field
    case neg =>
      have hn := hne (fun e => e1 (by rw [e]))
      simp only [go_sem, ↓reduceIte, Nat.reduceAdd, Nat.reduceSub, Nat.reduceEqDiff, Nat.reduceLT, Nat.reduceLeDiff, Nat.reduceMul, Int.reduceNeg, Int.reduceToNat, Int.reduceEq, Int.reduceLT, Int.reduceLE, reduceCtorEq, hi, h2, hw, hg, hia, hgx, hx, hy, e1]
      rw [decide_eq_false hn]
    have e1t := eq_true e1
    by_cases e2 : x.term = y.term
    case neg =>
      have hn := hne (fun e => e2 (by rw [e]))
      simp only [go_sem, ↓reduceIte, Nat.reduceAdd, Nat.reduceSub, Nat.reduceEqDiff, Nat.reduceLT, Nat.reduceLeDiff, Nat.reduceMul, Int.reduceNeg, Int.reduceToNat, Int.reduceEq, Int.reduceLT, Int.reduceLE, reduceCtorEq, hi, h2, hw, hg, hia, hgx, hx, hy, e1t, e2]
      rw [decide_eq_false hn]
    have e2t := eq_true e2
    by_cases e3 : x.posts.length = y.posts.length
    case neg =>
      have hn := hne (fun e => e3 (by rw [e]))
      have e3' : ¬ (x.posts.length : Int) = y.posts.length := by omega
      simp only [go_sem, ↓reduceIte, Nat.reduceAdd, Nat.reduceSub, Nat.reduceEqDiff, Nat.reduceLT, Nat.reduceLeDiff, Nat.reduceMul, Int.reduceNeg, Int.reduceToNat, Int.reduceEq, Int.reduceLT, Int.reduceLE, reduceCtorEq, hi, h2, hw, hg, hia, hgx, hx, hy, e1t, e2t, e3']
      rw [decide_eq_false hn]
    have e3' : (x.posts.length : Int) = y.posts.length := by omega
    simp only [go_sem, ↓reduceIte, Nat.reduceAdd, Nat.reduceSub, Nat.reduceEqDiff, Nat.reduceLT, Nat.reduceLeDiff, Nat.reduceMul, Int.reduceNeg, Int.reduceToNat, Int.reduceEq, Int.reduceLT, Int.reduceLE, reduceCtorEq, hi, h2, hw, hg, hia, hgx, hx, hy, e1t, e2t, e3']
    refine ends_for y.posts.length (by omega) (fun k _ => mkSt [(0, .sl (a.map Entry.pvF)), (1, .sl (b.map Entry.pvF)), (5, .int .i64 i), (6, .int .i64 k)] []) (fun k _ => x.posts.take k = y.posts.take k) 0 () (by omega) rfl ?_ ?_
    · rintro k _ hk hJ hwk ihk
      obtain ⟨q, hq, hgq, _⟩ := drop_get hk default
      have hka : k < x.posts.length := by omega
      obtain ⟨p, hp, hgp, _⟩ := drop_get hka default
      have hp2 := hx2 p (List.mem_of_getElem? hp)
      have hq2 := hy2 q (List.mem_of_getElem? hq)
      have hne2 : ¬ p = q → ¬ a = b := by
        intro he
        refine hne ?_
        rintro rfl
        rw [hp] at hq
        exact he (Option.some.inj hq)
      by_cases e4 : p.doc = q.doc
      case neg =>
        have hn := hne2 (fun e => e4 (by rw [e]))
        simp only [go_sem, ↓reduceIte, Nat.reduceAdd, Nat.reduceSub, Nat.reduceEqDiff, Nat.reduceLT, Nat.reduceLeDiff, Nat.reduceMul, Int.reduceNeg, Int.reduceToNat, Int.reduceEq, Int.reduceLT, Int.reduceLE, reduceCtorEq, hi, h2, hk, hwk, hg, hia, hgx, hx, hy, hgq, hka, hgp, hp, hq, e3', e4]
        rw [decide_eq_false hn]
      have e4t := eq_true e4
      by_cases e5 : p.ats = q.ats
      case neg =>
        have hn := hne2 (fun e => e5 (by rw [e]))
        simp only [go_sem, ↓reduceIte, Nat.reduceAdd, Nat.reduceSub, Nat.reduceEqDiff, Nat.reduceLT, Nat.reduceLeDiff, Nat.reduceMul, Int.reduceNeg, Int.reduceToNat, Int.reduceEq, Int.reduceLT, Int.reduceLE, reduceCtorEq, hi, h2, hk, hwk, hg, hia, hgx, hx, hy, hgq, hka, hgp, hp, hq, e3', e4t, e5, hp2, hq2]
        rw [decide_eq_false hn]
      have e5t := eq_true e5
      simp only [go_sem, ↓reduceIte, Nat.reduceAdd, Nat.reduceSub, Nat.reduceEqDiff, Nat.reduceLT, Nat.reduceLeDiff, Nat.reduceMul, Int.reduceNeg, Int.reduceToNat, Int.reduceEq, Int.reduceLT, Int.reduceLE, reduceCtorEq, hi, h2, hk, hwk, hg, hia, hgx, hx, hy, hgq, hka, hgp, hp, hq, e3', e4t, e5t, hp2, hq2]
      refine ihk () ?_
      have : p = q := by cases p; cases q; simp at e4 e5; simp [e4, e5]
      rw [List.take_add_one, List.take_add_one, hp, hq, hJ, this]
    · rintro _ hJ
      rw [List.take_length, List.take_of_length_le (by omega)] at hJ
      have hxy : x = y := by cases x; cases y; simp at e1 e2 hJ; simp [e1, e2, hJ]
      simp only [go_sem, ↓reduceIte, Nat.reduceAdd, Nat.reduceSub, Nat.reduceEqDiff, Nat.reduceLT, Nat.reduceLeDiff, Nat.reduceMul, Int.reduceNeg, Int.reduceToNat, Int.reduceEq, Int.reduceLT, Int.reduceLE, reduceCtorEq, hi, h2, hw, hg, hia, hgx, hx, hy, e3']
      exact ih () (by rw [List.take_add_one, List.take_add_one, hx, hy, hI, hxy])
  · rintro _ hI
    rw [List.take_length, List.take_of_length_le (by omega)] at hI
    simp only [go_sem, ↓reduceIte, Nat.reduceAdd, Nat.reduceSub, Nat.reduceEqDiff, Nat.reduceLT, Nat.reduceLeDiff, Nat.reduceMul, Int.reduceNeg, Int.reduceToNat, Int.reduceEq, Int.reduceLT, Int.reduceLE, reduceCtorEq, h2]
    rw [decide_eq_true hI]
def keyIx (rows : List DRow) (k : Str) : Int := if (rows.any fun r => r.doc.key = k) = true then (rows.findIdx (fun r => r.doc.key = k) : Nat) else -1
@[go_sem] theorem l4Key_R (rows : List DRow) (k : Str) (hl : rows.length ≤ 1099511627776) : R S0 50 [.sl (rows.map DRow.pvF), .str k] = some ⟨[none, none], .int .i64 (keyIx rows k)⟩ := by
  refine go50 rfl ?_; simp only [go_sem, ↓reduceIte, Nat.reduceAdd, Nat.reduceSub, Nat.reduceEqDiff, Nat.reduceLT, Nat.reduceLeDiff, Nat.reduceMul, Int.reduceNeg, Int.reduceToNat, Int.reduceEq, Int.reduceLT, Int.reduceLE, reduceCtorEq, Tryz.f50]
  refine ends_for rows.length (by omega) (fun i _ => mkSt [(0, .sl (rows.map DRow.pvF)), (1, .str k), (5, .int .i64 i)] []) (fun i _ => ∀ y ∈ rows.take i, decide (y.doc.key = k) = false) 0 () (by omega) (by simp) ?_ ?_
  · rintro i _ hi hI hw ih
    obtain ⟨x, hx, hg, hd⟩ := drop_get hi default
    by_cases h : x.doc.key = k
    · have := (look_at (p := fun r : DRow => decide (r.doc.key = k)) hI hx (by simpa using h)).2
      have e : keyIx rows k = i := by rw [keyIx, if_pos this.2, this.1]
      simp only [go_sem, ↓reduceIte, Nat.reduceAdd, Nat.reduceSub, Nat.reduceEqDiff, Nat.reduceLT, Nat.reduceLeDiff, Nat.reduceMul, Int.reduceNeg, Int.reduceToNat, Int.reduceEq, Int.reduceLT, Int.reduceLE, reduceCtorEq, hi, hw, hg, hx, eq_true h, e]
    · simp only [go_sem, ↓reduceIte, Nat.reduceAdd, Nat.reduceSub, Nat.reduceEqDiff, Nat.reduceLT, Nat.reduceLeDiff, Nat.reduceMul, Int.reduceNeg, Int.reduceToNat, Int.reduceEq, Int.reduceLT, Int.reduceLE, reduceCtorEq, hi, hw, hg, hx, h]
      exact ih () (take_step hI hx (by simpa using h))
  · rintro _ hI
    rw [List.take_length] at hI
    have := (look_no (p := fun r : DRow => decide (r.doc.key = k)) hI).2
    have e : keyIx rows k = -1 := by rw [keyIx, if_neg (by rw [this]; simp)]
    simp only [go_sem, ↓reduceIte, Nat.reduceAdd, Nat.reduceSub, Nat.reduceEqDiff, Nat.reduceLT, Nat.reduceLeDiff, Nat.reduceMul, Int.reduceNeg, Int.reduceToNat, Int.reduceEq, Int.reduceLT, Int.reduceLE, reduceCtorEq, e]
@[go_sem] theorem DRow.snocF (l : List DRow) (i : Int) (k : Str) (cs : List Cell) : l.map DRow.pvF ++ [.agg [.int .i64 i, .str k, .sl (cs.map Cell.pv)]] = (l ++ [DRow.mk i (Doc.mk k cs)]).map DRow.pvF := by simp [DRow.pvF]
@[go_sem] theorem DRow.snoc (l : List DRow) (i : Int) (k : Str) (cs : List Cell) : l.map DRow.pv ++ [.agg [.int .i64 i, .str k, .slo 2 (cs.map Cell.pv)]] = (l ++ [DRow.mk i (Doc.mk k cs)]).map DRow.pv := by simp [DRow.pv]
def lessKey (rows : List DRow) (k : Str) : List DRow := rows.filter fun r => !decide (r.doc.key = k)
@[go_sem] theorem l4Without_R (rows : List DRow) (k : Str) (hl : rows.length ≤ 1099511627776) : R S0 67 [.sl (rows.map DRow.pvF), .str k] = some ⟨[none, none], .slo 3 ((lessKey rows k).map DRow.pvF)⟩ := by
  refine go67 rfl ?_; simp only [go_sem, ↓reduceIte, Nat.reduceAdd, Nat.reduceSub, Nat.reduceEqDiff, Nat.reduceLT, Nat.reduceLeDiff, Nat.reduceMul, Int.reduceNeg, Int.reduceToNat, Int.reduceEq, Int.reduceLT, Int.reduceLE, reduceCtorEq, Tryz.f67]
  refine ends_for rows.length (by omega) (fun i _ => mkSt [(0, .sl (rows.map DRow.pvF)), (1, .str k), (5, .own 0), (6, .int .i64 i)] [.slo 3 ((lessKey (rows.take i) k).map DRow.pvF)]) (fun _ _ => True) 0 () (by omega) trivial ?_ ?_
  · rintro i _ hi _ hw ih
    obtain ⟨x, hx, hg, hd⟩ := drop_get hi default
    have hle : (lessKey (rows.take i) k).length ≤ 1099511627776 := by
      have := List.length_filter_le (fun r : DRow => !decide (r.doc.key = k)) (rows.take i)
      rw [lessKey]; simp only [List.length_take] at this; omega
    have ih' := ih () trivial
    by_cases h : x.doc.key = k
    · have e : lessKey (rows.take (i + 1)) k = lessKey (rows.take i) k := by rw [lessKey, List.take_add_one, hx, List.filter_append]; simp [h, lessKey]
      rw [e] at ih'
      simp only [go_sem, ↓reduceIte, Nat.reduceAdd, Nat.reduceSub, Nat.reduceEqDiff, Nat.reduceLT, Nat.reduceLeDiff, Nat.reduceMul, Int.reduceNeg, Int.reduceToNat, Int.reduceEq, Int.reduceLT, Int.reduceLE, reduceCtorEq, hi, hw, hg, hx, eq_true h]
      exact ih'
    · have e : lessKey (rows.take (i + 1)) k = lessKey (rows.take i) k ++ [DRow.mk x.id (Doc.mk x.doc.key x.doc.cells)] := by rw [lessKey, List.take_add_one, hx, List.filter_append]; simp [h, lessKey]
      rw [e] at ih'
      simp only [go_sem, ↓reduceIte, Nat.reduceAdd, Nat.reduceSub, Nat.reduceEqDiff, Nat.reduceLT, Nat.reduceLeDiff, Nat.reduceMul, Int.reduceNeg, Int.reduceToNat, Int.reduceEq, Int.reduceLT, Int.reduceLE, reduceCtorEq, hi, hw, hg, hx, h]
      exact ⟨by omega, ih'⟩
  · rintro _ _
    simp only [go_sem, ↓reduceIte, Nat.reduceAdd, Nat.reduceSub, Nat.reduceEqDiff, Nat.reduceLT, Nat.reduceLeDiff, Nat.reduceMul, Int.reduceNeg, Int.reduceToNat, Int.reduceEq, Int.reduceLT, Int.reduceLE, reduceCtorEq]
    rw [List.take_length]
@[go_sem] theorem l4Build_R (fl : List Field) (rows : List DRow) (nx : Int) (hfl : fl.length ≤ 1099511627776) (hr : RowsSt rows) : R S0 69 [.sl (fl.map Field.pv), .sl (rows.map DRow.pvF), .int .i64 nx] = some ⟨[none, none, none], .agg [.slo 3 (fl.map Field.pv), .slo 3 (rows.map DRow.pv), .slo 3 ((madeE fl rows).map Entry.pv), .int .i64 nx]⟩ := by
  obtain ⟨hl, hrs⟩ := id hr
  refine go69 rfl ?_; simp only [go_sem, ↓reduceIte, Nat.reduceAdd, Nat.reduceSub, Nat.reduceEqDiff, Nat.reduceLT, Nat.reduceLeDiff, Nat.reduceMul, Int.reduceNeg, Int.reduceToNat, Int.reduceEq, Int.reduceLT, Int.reduceLE, reduceCtorEq, Tryz.f69]
  refine ⟨by omega, ?_⟩
  refine ends_for rows.length (by omega) (fun i _ => mkSt [(1, .sl (rows.map DRow.pvF)), (6, .addr 0 0 0), (7, .addr 1 0 0), (8, .int .i64 i)] [.pto [.slo 3 [], .slo 3 [], .slo 3 [], .int .i64 0], .pto [.slo 3 (fl.map Field.pv), .slo 3 ((rows.take i).map DRow.pv), .slo 3 [], .int .i64 nx]]) (fun _ _ => True) 0 () (by omega) trivial ?_ ?_
  · rintro i _ hi _ hw ih
    obtain ⟨x, hx, hg, hd⟩ := drop_get hi default
    obtain ⟨_, hxc, _⟩ := hrs x (List.mem_of_getElem? hx)
    have ih' := ih () trivial
    have e : rows.take (i + 1) = rows.take i ++ [DRow.mk x.id (Doc.mk x.doc.key x.doc.cells)] := by rw [List.take_add_one, hx]; rfl
    have hlt : (rows.take i).length ≤ 1000 := by simp; omega
    rw [e] at ih'
    simp only [go_sem, ↓reduceIte, Nat.reduceAdd, Nat.reduceSub, Nat.reduceEqDiff, Nat.reduceLT, Nat.reduceLeDiff, Nat.reduceMul, Int.reduceNeg, Int.reduceToNat, Int.reduceEq, Int.reduceLT, Int.reduceLE, reduceCtorEq, hi, hw, hg, hx]
    exact ⟨by omega, by omega, by decide +kernel, ih'⟩
  · rintro _ _
    rw [List.take_length]
    simp only [go_sem, ↓reduceIte, Nat.reduceAdd, Nat.reduceSub, Nat.reduceEqDiff, Nat.reduceLT, Nat.reduceLeDiff, Nat.reduceMul, Int.reduceNeg, Int.reduceToNat, Int.reduceEq, Int.reduceLT, Int.reduceLE, reduceCtorEq, hfl, hr]
end Go.Proofs.YtjagjfjhinlgiaaGreatDoor.PVE
