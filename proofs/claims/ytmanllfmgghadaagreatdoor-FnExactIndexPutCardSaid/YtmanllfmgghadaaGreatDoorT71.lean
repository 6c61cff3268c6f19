/- Indexes as arguments: sizes, copies, comparisons (printed by exact2.py). -/
import Derived.Test.YtmanllfmgghadaaGreatDoorT70
set_option linter.unusedVariables false
set_option linter.unusedSimpArgs false
set_option maxRecDepth 100000
namespace Go.Proofs.YtmanllfmgghadaaGreatDoor.PVE
open PV
def szOf (n : Nat) (left : Int) : Int := if (n : Int) ≤ left then left - n else -1
theorem szOf_no {n : Nat} {left : Int} (h : left < n) : szOf n left = -1 := if_neg (by omega)
theorem szOf_yes {n : Nat} {left : Int} (h : (n : Int) ≤ left) : szOf n left = left - n := if_pos h
theorem szOf_neg {n : Nat} {left : Int} (h : szOf n left < 0) (h0 : 0 ≤ left) : left < n := by
  unfold szOf at h
  split at h <;> omega
theorem szOf_pos {n : Nat} {left : Int} (h : ¬ szOf n left < 0) : (n : Int) ≤ left ∧ szOf n left = left - n := by
  unfold szOf at h ⊢
  split at h <;> rename_i c
  · rw [if_pos c]; exact ⟨c, rfl⟩
  · omega
def totG {α : Type} (f : α → Nat) : List α → Nat
  | [] => 0
  | x :: l => f x + 1 + totG f l
theorem totG_app {α : Type} (f : α → Nat) : ∀ (l m : List α), totG f (l ++ m) = totG f l + totG f m
  | [], m => by simp [totG]
  | x :: l, m => by rw [List.cons_append, totG, totG, totG_app f l m]; omega
theorem totG_len {α : Type} (f : α → Nat) : ∀ l : List α, l.length ≤ totG f l
  | [] => Nat.le_refl _
  | x :: l => by have := totG_len f l; rw [totG, List.length_cons]; omega
theorem totG_mem {α : Type} {f : α → Nat} : ∀ {l : List α} {x : α}, x ∈ l → f x ≤ totG f l
  | y :: l, x, h => by
    rw [totG]
    rcases List.mem_cons.1 h with rfl | h
    · omega
    · have := totG_mem (f := f) h; omega
def RLm (r : DRow) : Prop := DLm r.doc
def PLm (x : Post) : Prop := x.ats.length ≤ 9223372036854775807
def ELm (e : Entry) : Prop := e.field.length ≤ 9223372036854775807 ∧ e.term.length ≤ 9223372036854775807 ∧ e.posts.length ≤ 9223372036854775807 ∧ ∀ x ∈ e.posts, PLm x
def totR (r : DRow) : Nat := totD r.doc
def totP (x : Post) : Nat := x.ats.length
def totE (e : Entry) : Nat := e.field.length + e.term.length + totG totP e.posts
@[go_sem] theorem szIntS_R (l : List Int) (hl : l.length ≤ 9223372036854775807) (left : Int) (h0 : 0 ≤ left) (h1 : left ≤ 1099511627776) : R S0 252 [.sl (l.map (PV.int .i64)), .int .i64 left] = some ⟨[none, none], .int .i64 (szOf l.length left)⟩ := by
  have hw : IntKind.i64.wrap (left - l.length) = left - l.length := wrap_in (by omega) (by omega)
  by_cases c : left - (l.length : Int) < 0
  · refine go252 rfl ?_; simp only [go_sem, ↓reduceIte, Nat.reduceAdd, Nat.reduceSub, Nat.reduceEqDiff, Nat.reduceLT, Nat.reduceLeDiff, Nat.reduceMul, Int.reduceNeg, Int.reduceToNat, Int.reduceEq, Int.reduceLT, Int.reduceLE, reduceCtorEq, Tryz.f252, hw, c]
    rw [szOf_no (by omega)]
  · refine go252 rfl ?_; simp only [go_sem, ↓reduceIte, Nat.reduceAdd, Nat.reduceSub, Nat.reduceEqDiff, Nat.reduceLT, Nat.reduceLeDiff, Nat.reduceMul, Int.reduceNeg, Int.reduceToNat, Int.reduceEq, Int.reduceLT, Int.reduceLE, reduceCtorEq, Tryz.f252, hw, c]
    rw [szOf_yes (by omega)]
theorem szRow_R (r : DRow) (hr : RLm r) (left : Int) (h0 : 0 ≤ left) (h1 : left ≤ 1099511627776) : R S0 112 [.agg [.int .i64 r.id, .str r.doc.key, .sl (r.doc.cells.map Cell.pv)], .int .i64 left] = some ⟨[none, none], .int .i64 (szOf (totR r) left)⟩ := by
  have hS := szDoc_R r.doc hr left h0 h1
  have e : szD r.doc left = szOf (totR r) left := rfl
  rw [e] at hS
  by_cases c : szOf (totR r) left < 0
  · refine go112 rfl ?_; simp only [go_sem, ↓reduceIte, Nat.reduceAdd, Nat.reduceSub, Nat.reduceEqDiff, Nat.reduceLT, Nat.reduceLeDiff, Nat.reduceMul, Int.reduceNeg, Int.reduceToNat, Int.reduceEq, Int.reduceLT, Int.reduceLE, reduceCtorEq, Tryz.f112, hS, c]
    rw [szOf_no (szOf_neg c h0)]
  · refine go112 rfl ?_; simp only [go_sem, ↓reduceIte, Nat.reduceAdd, Nat.reduceSub, Nat.reduceEqDiff, Nat.reduceLT, Nat.reduceLeDiff, Nat.reduceMul, Int.reduceNeg, Int.reduceToNat, Int.reduceEq, Int.reduceLT, Int.reduceLE, reduceCtorEq, Tryz.f112, hS, c]
theorem szPost_R (x : Post) (hx : PLm x) (left : Int) (h0 : 0 ≤ left) (h1 : left ≤ 1099511627776) : R S0 220 [.agg [.int .i64 x.doc, .sl (x.ats.map (.int .i64))], .int .i64 left] = some ⟨[none, none], .int .i64 (szOf (totP x) left)⟩ := by
  have hS := szIntS_R x.ats hx left h0 h1
  have e : szOf x.ats.length left = szOf (totP x) left := rfl
  rw [e] at hS
  by_cases c : szOf (totP x) left < 0
  · refine go220 rfl ?_; simp only [go_sem, ↓reduceIte, Nat.reduceAdd, Nat.reduceSub, Nat.reduceEqDiff, Nat.reduceLT, Nat.reduceLeDiff, Nat.reduceMul, Int.reduceNeg, Int.reduceToNat, Int.reduceEq, Int.reduceLT, Int.reduceLE, reduceCtorEq, Tryz.f220, hS, c]
    rw [szOf_no (szOf_neg c h0)]
  · refine go220 rfl ?_; simp only [go_sem, ↓reduceIte, Nat.reduceAdd, Nat.reduceSub, Nat.reduceEqDiff, Nat.reduceLT, Nat.reduceLeDiff, Nat.reduceMul, Int.reduceNeg, Int.reduceToNat, Int.reduceEq, Int.reduceLT, Int.reduceLE, reduceCtorEq, Tryz.f220, hS, c]
theorem szRowS_R (l : List DRow) (hl : l.length ≤ 9223372036854775807) (hn : ∀ x ∈ l, RLm x) (left : Int) (h0 : 0 ≤ left) (h1 : left ≤ 1099511627776) : R S0 51 [.sl (l.map DRow.pvF), .int .i64 left] = some ⟨[none, none], .int .i64 (szOf (totG totR l) left)⟩ := by
  have hw : IntKind.i64.wrap (left - l.length) = left - l.length := wrap_in (by omega) (by omega)
  have hlt := totG_len totR l
  by_cases hc : left - (l.length : Int) < 0
  · refine go51 rfl ?_; simp only [go_sem, ↓reduceIte, Nat.reduceAdd, Nat.reduceSub, Nat.reduceEqDiff, Nat.reduceLT, Nat.reduceLeDiff, Nat.reduceMul, Int.reduceNeg, Int.reduceToNat, Int.reduceEq, Int.reduceLT, Int.reduceLE, reduceCtorEq, Tryz.f51, hw, hc]
    rw [szOf_no (by omega)]
  · refine go51 rfl ?_; simp only [go_sem, ↓reduceIte, Nat.reduceAdd, Nat.reduceSub, Nat.reduceEqDiff, Nat.reduceLT, Nat.reduceLeDiff, Nat.reduceMul, Int.reduceNeg, Int.reduceToNat, Int.reduceEq, Int.reduceLT, Int.reduceLE, reduceCtorEq, Tryz.f51, hw, hc]
    refine ends_for l.length (by omega) (fun i (x : Int) => mkSt [(0, .sl (l.map DRow.pvF)), (1, .int .i64 x), (5, .int .i64 i)] []) (fun i x => 0 ≤ x ∧ x + totG totR (l.take i) + (l.length - i : Nat) = left) 0 (left - l.length) (by omega) ⟨by omega, by simp [totG]⟩ ?_ ?_
    · rintro i x hi ⟨hx0, hx1⟩ hw ih
      obtain ⟨q, hq, hg, hd⟩ := drop_get hi default
      have hm := List.mem_of_getElem? hq
      have hxb : x ≤ 1099511627776 := by omega
      have hS := szRow_R q (hn q hm) x hx0 hxb
      have hll : l = l.take i ++ q :: l.drop (i + 1) := by rw [← hd, List.take_append_drop]
      have hsum : totG totR l = totG totR (l.take i) + (totR q + 1 + totG totR (l.drop (i + 1))) := by
        conv => lhs; rw [hll]
        rw [totG_app, totG]
      have hdl := totG_len totR (l.drop (i + 1))
      rw [List.length_drop] at hdl
      have htk : l.take (i + 1) = l.take i ++ [q] := by rw [List.take_add_one, hq]; rfl
      by_cases c : szOf (totR q) x < 0
      · have := szOf_neg c hx0
        simp only [go_sem, ↓reduceIte, Nat.reduceAdd, Nat.reduceSub, Nat.reduceEqDiff, Nat.reduceLT, Nat.reduceLeDiff, Nat.reduceMul, Int.reduceNeg, Int.reduceToNat, Int.reduceEq, Int.reduceLT, Int.reduceLE, reduceCtorEq, hi, hw, hg, hq, hS, c]
        rw [szOf_no (by omega)]
      · obtain ⟨c1, c2⟩ := szOf_pos c
        have ih' := ih (szOf (totR q) x) ⟨by omega, by rw [htk, totG_app, totG, totG, c2]; omega⟩
        simp only [go_sem, ↓reduceIte, Nat.reduceAdd, Nat.reduceSub, Nat.reduceEqDiff, Nat.reduceLT, Nat.reduceLeDiff, Nat.reduceMul, Int.reduceNeg, Int.reduceToNat, Int.reduceEq, Int.reduceLT, Int.reduceLE, reduceCtorEq, hi, hw, hg, hq, hS, c]
        exact ih'
    · rintro x ⟨hx0, hx1⟩
      rw [List.take_length] at hx1
      simp only [go_sem, ↓reduceIte, Nat.reduceAdd, Nat.reduceSub, Nat.reduceEqDiff, Nat.reduceLT, Nat.reduceLeDiff, Nat.reduceMul, Int.reduceNeg, Int.reduceToNat, Int.reduceEq, Int.reduceLT, Int.reduceLE, reduceCtorEq]
      rw [szOf_yes (by omega)]
      omega
theorem szPostS_R (l : List Post) (hl : l.length ≤ 9223372036854775807) (hn : ∀ x ∈ l, PLm x) (left : Int) (h0 : 0 ≤ left) (h1 : left ≤ 1099511627776) : R S0 174 [.sl (l.map Post.pvF), .int .i64 left] = some ⟨[none, none], .int .i64 (szOf (totG totP l) left)⟩ := by
  have hw : IntKind.i64.wrap (left - l.length) = left - l.length := wrap_in (by omega) (by omega)
  have hlt := totG_len totP l
  by_cases hc : left - (l.length : Int) < 0
  · refine go174 rfl ?_; simp only [go_sem, ↓reduceIte, Nat.reduceAdd, Nat.reduceSub, Nat.reduceEqDiff, Nat.reduceLT, Nat.reduceLeDiff, Nat.reduceMul, Int.reduceNeg, Int.reduceToNat, Int.reduceEq, Int.reduceLT, Int.reduceLE, reduceCtorEq, Tryz.f174, hw, hc]
    rw [szOf_no (by omega)]
  · refine go174 rfl ?_; simp only [go_sem, ↓reduceIte, Nat.reduceAdd, Nat.reduceSub, Nat.reduceEqDiff, Nat.reduceLT, Nat.reduceLeDiff, Nat.reduceMul, Int.reduceNeg, Int.reduceToNat, Int.reduceEq, Int.reduceLT, Int.reduceLE, reduceCtorEq, Tryz.f174, hw, hc]
    refine ends_for l.length (by omega) (fun i (x : Int) => mkSt [(0, .sl (l.map Post.pvF)), (1, .int .i64 x), (5, .int .i64 i)] []) (fun i x => 0 ≤ x ∧ x + totG totP (l.take i) + (l.length - i : Nat) = left) 0 (left - l.length) (by omega) ⟨by omega, by simp [totG]⟩ ?_ ?_
    · rintro i x hi ⟨hx0, hx1⟩ hw ih
      obtain ⟨q, hq, hg, hd⟩ := drop_get hi default
      have hm := List.mem_of_getElem? hq
      have hxb : x ≤ 1099511627776 := by omega
      have hS := szPost_R q (hn q hm) x hx0 hxb
      have hll : l = l.take i ++ q :: l.drop (i + 1) := by rw [← hd, List.take_append_drop]
      have hsum : totG totP l = totG totP (l.take i) + (totP q + 1 + totG totP (l.drop (i + 1))) := by
        conv => lhs; rw [hll]
        rw [totG_app, totG]
      have hdl := totG_len totP (l.drop (i + 1))
      rw [List.length_drop] at hdl
      have htk : l.take (i + 1) = l.take i ++ [q] := by rw [List.take_add_one, hq]; rfl
      by_cases c : szOf (totP q) x < 0
      · have := szOf_neg c hx0
        simp only [go_sem, ↓reduceIte, Nat.reduceAdd, Nat.reduceSub, Nat.reduceEqDiff, Nat.reduceLT, Nat.reduceLeDiff, Nat.reduceMul, Int.reduceNeg, Int.reduceToNat, Int.reduceEq, Int.reduceLT, Int.reduceLE, reduceCtorEq, hi, hw, hg, hq, hS, c]
        rw [szOf_no (by omega)]
      · obtain ⟨c1, c2⟩ := szOf_pos c
        have ih' := ih (szOf (totP q) x) ⟨by omega, by rw [htk, totG_app, totG, totG, c2]; omega⟩
        simp only [go_sem, ↓reduceIte, Nat.reduceAdd, Nat.reduceSub, Nat.reduceEqDiff, Nat.reduceLT, Nat.reduceLeDiff, Nat.reduceMul, Int.reduceNeg, Int.reduceToNat, Int.reduceEq, Int.reduceLT, Int.reduceLE, reduceCtorEq, hi, hw, hg, hq, hS, c]
        exact ih'
    · rintro x ⟨hx0, hx1⟩
      rw [List.take_length] at hx1
      simp only [go_sem, ↓reduceIte, Nat.reduceAdd, Nat.reduceSub, Nat.reduceEqDiff, Nat.reduceLT, Nat.reduceLeDiff, Nat.reduceMul, Int.reduceNeg, Int.reduceToNat, Int.reduceEq, Int.reduceLT, Int.reduceLE, reduceCtorEq]
      rw [szOf_yes (by omega)]
      omega
theorem szEntry_R (e : Entry) (he : ELm e) (left : Int) (h0 : 0 ≤ left) (h1 : left ≤ 1099511627776) : R S0 113 [.agg [.str e.field, .str e.term, .sl (e.posts.map Post.pvF)], .int .i64 left] = some ⟨[none, none], .int .i64 (szOf (totE e) left)⟩ := by
  obtain ⟨hf, ht, hp, hps⟩ := he
  have hw : IntKind.i64.wrap (left - e.field.length) = left - e.field.length := wrap_in (by omega) (by omega)
  by_cases c1 : left - (e.field.length : Int) < 0
  · refine go113 rfl ?_; simp only [go_sem, ↓reduceIte, Nat.reduceAdd, Nat.reduceSub, Nat.reduceEqDiff, Nat.reduceLT, Nat.reduceLeDiff, Nat.reduceMul, Int.reduceNeg, Int.reduceToNat, Int.reduceEq, Int.reduceLT, Int.reduceLE, reduceCtorEq, Tryz.f113, hw, c1]
    rw [szOf_no (by unfold totE; omega)]
  have hw2 : IntKind.i64.wrap (left - e.field.length - e.term.length) = left - e.field.length - e.term.length := wrap_in (by omega) (by omega)
  by_cases c2 : left - (e.field.length : Int) - e.term.length < 0
  · refine go113 rfl ?_; simp only [go_sem, ↓reduceIte, Nat.reduceAdd, Nat.reduceSub, Nat.reduceEqDiff, Nat.reduceLT, Nat.reduceLeDiff, Nat.reduceMul, Int.reduceNeg, Int.reduceToNat, Int.reduceEq, Int.reduceLT, Int.reduceLE, reduceCtorEq, Tryz.f113, hw, c1, hw2, c2]
    rw [szOf_no (by unfold totE; omega)]
  have hS := szPostS_R e.posts hp hps (left - e.field.length - e.term.length) (by omega) (by omega)
  by_cases c3 : szOf (totG totP e.posts) (left - e.field.length - e.term.length) < 0
  · have := szOf_neg c3 (by omega)
    refine go113 rfl ?_; simp only [go_sem, ↓reduceIte, Nat.reduceAdd, Nat.reduceSub, Nat.reduceEqDiff, Nat.reduceLT, Nat.reduceLeDiff, Nat.reduceMul, Int.reduceNeg, Int.reduceToNat, Int.reduceEq, Int.reduceLT, Int.reduceLE, reduceCtorEq, Tryz.f113, hw, c1, hw2, c2, hS, c3]
    rw [szOf_no (by unfold totE; omega)]
  · obtain ⟨c4, c5⟩ := szOf_pos c3
    refine go113 rfl ?_; simp only [go_sem, ↓reduceIte, Nat.reduceAdd, Nat.reduceSub, Nat.reduceEqDiff, Nat.reduceLT, Nat.reduceLeDiff, Nat.reduceMul, Int.reduceNeg, Int.reduceToNat, Int.reduceEq, Int.reduceLT, Int.reduceLE, reduceCtorEq, Tryz.f113, hw, c1, hw2, c2, hS, c3]
    rw [c5, szOf_yes (by unfold totE; omega)]
    unfold totE; omega
theorem szEntryS_R (l : List Entry) (hl : l.length ≤ 9223372036854775807) (hn : ∀ x ∈ l, ELm x) (left : Int) (h0 : 0 ≤ left) (h1 : left ≤ 1099511627776) : R S0 52 [.sl (l.map Entry.pvF), .int .i64 left] = some ⟨[none, none], .int .i64 (szOf (totG totE l) left)⟩ := by
  have hw : IntKind.i64.wrap (left - l.length) = left - l.length := wrap_in (by omega) (by omega)
  have hlt := totG_len totE l
  by_cases hc : left - (l.length : Int) < 0
  · refine go52 rfl ?_; simp only [go_sem, ↓reduceIte, Nat.reduceAdd, Nat.reduceSub, Nat.reduceEqDiff, Nat.reduceLT, Nat.reduceLeDiff, Nat.reduceMul, Int.reduceNeg, Int.reduceToNat, Int.reduceEq, Int.reduceLT, Int.reduceLE, reduceCtorEq, Tryz.f52, hw, hc]
    rw [szOf_no (by omega)]
  · refine go52 rfl ?_; simp only [go_sem, ↓reduceIte, Nat.reduceAdd, Nat.reduceSub, Nat.reduceEqDiff, Nat.reduceLT, Nat.reduceLeDiff, Nat.reduceMul, Int.reduceNeg, Int.reduceToNat, Int.reduceEq, Int.reduceLT, Int.reduceLE, reduceCtorEq, Tryz.f52, hw, hc]
    refine ends_for l.length (by omega) (fun i (x : Int) => mkSt [(0, .sl (l.map Entry.pvF)), (1, .int .i64 x), (5, .int .i64 i)] []) (fun i x => 0 ≤ x ∧ x + totG totE (l.take i) + (l.length - i : Nat) = left) 0 (left - l.length) (by omega) ⟨by omega, by simp [totG]⟩ ?_ ?_
    · rintro i x hi ⟨hx0, hx1⟩ hw ih
      obtain ⟨q, hq, hg, hd⟩ := drop_get hi default
      have hm := List.mem_of_getElem? hq
      have hxb : x ≤ 1099511627776 := by omega
      have hS := szEntry_R q (hn q hm) x hx0 hxb
      have hll : l = l.take i ++ q :: l.drop (i + 1) := by rw [← hd, List.take_append_drop]
      have hsum : totG totE l = totG totE (l.take i) + (totE q + 1 + totG totE (l.drop (i + 1))) := by
        conv => lhs; rw [hll]
        rw [totG_app, totG]
      have hdl := totG_len totE (l.drop (i + 1))
      rw [List.length_drop] at hdl
      have htk : l.take (i + 1) = l.take i ++ [q] := by rw [List.take_add_one, hq]; rfl
      by_cases c : szOf (totE q) x < 0
      · have := szOf_neg c hx0
        simp only [go_sem, ↓reduceIte, Nat.reduceAdd, Nat.reduceSub, Nat.reduceEqDiff, Nat.reduceLT, Nat.reduceLeDiff, Nat.reduceMul, Int.reduceNeg, Int.reduceToNat, Int.reduceEq, Int.reduceLT, Int.reduceLE, reduceCtorEq, hi, hw, hg, hq, hS, c]
        rw [szOf_no (by omega)]
      · obtain ⟨c1, c2⟩ := szOf_pos c
        have ih' := ih (szOf (totE q) x) ⟨by omega, by rw [htk, totG_app, totG, totG, c2]; omega⟩
        simp only [go_sem, ↓reduceIte, Nat.reduceAdd, Nat.reduceSub, Nat.reduceEqDiff, Nat.reduceLT, Nat.reduceLeDiff, Nat.reduceMul, Int.reduceNeg, Int.reduceToNat, Int.reduceEq, Int.reduceLT, Int.reduceLE, reduceCtorEq, hi, hw, hg, hq, hS, c]
        exact ih'
    · rintro x ⟨hx0, hx1⟩
      rw [List.take_length] at hx1
      simp only [go_sem, ↓reduceIte, Nat.reduceAdd, Nat.reduceSub, Nat.reduceEqDiff, Nat.reduceLT, Nat.reduceLeDiff, Nat.reduceMul, Int.reduceNeg, Int.reduceToNat, Int.reduceEq, Int.reduceLT, Int.reduceLE, reduceCtorEq]
      rw [szOf_yes (by omega)]
      omega
def totIx (fl : List Field) (rows : List DRow) (ents : List Entry) : Nat := totF fl + totG totR rows + totG totE ents
def ILm (fl : List Field) (rows : List DRow) (ents : List Entry) : Prop := (fl.length ≤ 9223372036854775807 ∧ ∀ f ∈ fl, f.name.length ≤ 9223372036854775807) ∧ (rows.length ≤ 9223372036854775807 ∧ ∀ r ∈ rows, RLm r) ∧ (ents.length ≤ 9223372036854775807 ∧ ∀ e ∈ ents, ELm e)
theorem szIndex_R (fl : List Field) (rows : List DRow) (ents : List Entry) (nx : Int) (h : ILm fl rows ents) (left : Int) (h0 : 0 ≤ left) (h1 : left ≤ 1099511627776) : R S0 10 [.agg [.sl (fl.map Field.pv), .sl (rows.map DRow.pvF), .sl (ents.map Entry.pvF), .int .i64 nx], .int .i64 left] = some ⟨[none, none], .int .i64 (szOf (totIx fl rows ents) left)⟩ := by
  obtain ⟨⟨f1, f2⟩, ⟨r1, r2⟩, ⟨e1, e2⟩⟩ := h
  have s1 := szFieldS_R fl f1 f2 left h0 h1
  have ee : szFS fl left = szOf (totF fl) left := rfl
  rw [ee] at s1
  by_cases c1 : szOf (totF fl) left < 0
  · have := szOf_neg c1 h0
    refine go10 rfl ?_; simp only [go_sem, ↓reduceIte, Nat.reduceAdd, Nat.reduceSub, Nat.reduceEqDiff, Nat.reduceLT, Nat.reduceLeDiff, Nat.reduceMul, Int.reduceNeg, Int.reduceToNat, Int.reduceEq, Int.reduceLT, Int.reduceLE, reduceCtorEq, Tryz.f10, s1, c1]
    rw [szOf_no (by unfold totIx; omega)]
  obtain ⟨d1, d2⟩ := szOf_pos c1
  have s2 := szRowS_R rows r1 r2 (szOf (totF fl) left) (by omega) (by omega)
  by_cases c2 : szOf (totG totR rows) (szOf (totF fl) left) < 0
  · have := szOf_neg c2 (by omega)
    refine go10 rfl ?_; simp only [go_sem, ↓reduceIte, Nat.reduceAdd, Nat.reduceSub, Nat.reduceEqDiff, Nat.reduceLT, Nat.reduceLeDiff, Nat.reduceMul, Int.reduceNeg, Int.reduceToNat, Int.reduceEq, Int.reduceLT, Int.reduceLE, reduceCtorEq, Tryz.f10, s1, c1, s2, c2]
    rw [szOf_no (by unfold totIx; omega)]
  obtain ⟨d3, d4⟩ := szOf_pos c2
  have s3 := szEntryS_R ents e1 e2 (szOf (totG totR rows) (szOf (totF fl) left)) (by omega) (by omega)
  by_cases c3 : szOf (totG totE ents) (szOf (totG totR rows) (szOf (totF fl) left)) < 0
  · have := szOf_neg c3 (by omega)
    refine go10 rfl ?_; simp only [go_sem, ↓reduceIte, Nat.reduceAdd, Nat.reduceSub, Nat.reduceEqDiff, Nat.reduceLT, Nat.reduceLeDiff, Nat.reduceMul, Int.reduceNeg, Int.reduceToNat, Int.reduceEq, Int.reduceLT, Int.reduceLE, reduceCtorEq, Tryz.f10, s1, c1, s2, c2, s3, c3]
    rw [szOf_no (by unfold totIx; omega)]
  obtain ⟨d5, d6⟩ := szOf_pos c3
  refine go10 rfl ?_; simp only [go_sem, ↓reduceIte, Nat.reduceAdd, Nat.reduceSub, Nat.reduceEqDiff, Nat.reduceLT, Nat.reduceLeDiff, Nat.reduceMul, Int.reduceNeg, Int.reduceToNat, Int.reduceEq, Int.reduceLT, Int.reduceLE, reduceCtorEq, Tryz.f10, s1, c1, s2, c2, s3, c3]
  rw [d6, d4, d2, szOf_yes (by unfold totIx; omega)]
  unfold totIx; omega
theorem ix_sm {fl : List Field} {rows : List DRow} {ents : List Entry} (h : totIx fl rows ents ≤ 1048576) : FSm fl ∧ RowsM rows ∧ EntSm ents := by
  unfold totIx at h
  have h1 := totG_len totR rows
  have h2 := totG_len totE ents
  refine ⟨fsm_of_tot (by omega), ⟨by omega, fun r hr => dsm_of_tot ?_⟩, ⟨by omega, fun e he => ⟨?_, fun x hx => ?_⟩⟩⟩
  · have := totG_mem (f := totR) hr
    have h6 : totR r = totD r.doc := rfl
    omega
  · have h3 := totG_mem (f := totE) he
    have h4 := totG_len totP e.posts
    have h6 : totE e = e.field.length + e.term.length + totG totP e.posts := rfl
    omega
  · have h3 := totG_mem (f := totE) he
    have h4 := totG_mem (f := totP) hx
    have h6 : totE e = e.field.length + e.term.length + totG totP e.posts := rfl
    have h7 : totP x = x.ats.length := rfl
    omega
@[go_sem] theorem toIntS_R (l : List Int) (hl : l.length ≤ 1099511627776) : R S0 13 [.sl (l.map (PV.int .i64))] = some ⟨[none], .slo 1 (l.map (PV.int .i64))⟩ := by
  have h1 : l.length * 8 ≤ 140737488355328 := by omega
  have e1 : List.replicate l.length (PV.int .i64 0) = (List.replicate l.length (0 : Int)).map (PV.int .i64) := by rw [List.map_replicate]
  refine go13 rfl ?_; simp only [go_sem, ↓reduceIte, Nat.reduceAdd, Nat.reduceSub, Nat.reduceEqDiff, Nat.reduceLT, Nat.reduceLeDiff, Nat.reduceMul, Int.reduceNeg, Int.reduceToNat, Int.reduceEq, Int.reduceLT, Int.reduceLE, reduceCtorEq, Tryz.f13, h1, e1]
  refine ends_for l.length (by omega) (fun i (x : List Int) => mkSt [(0, .sl (l.map (PV.int .i64))), (3, .own 0), (4, .int .i64 i)] [.slo 1 (x.map (PV.int .i64))]) (fun i x => x = l.take i ++ List.replicate (l.length - i) 0) 0 (List.replicate l.length 0) (by omega) (by simp) ?_ ?_
  · rintro i x hi hI hw ih
    obtain ⟨q, hq, hg, hd⟩ := drop_get hi default
    have hxl : x.length = l.length := by rw [hI]; simp; omega
    have hix : i < x.length := by omega
    have hxi : x[i]? = some (x[i]'hix) := List.getElem?_eq_getElem hix
    simp only [go_sem, ↓reduceIte, Nat.reduceAdd, Nat.reduceSub, Nat.reduceEqDiff, Nat.reduceLT, Nat.reduceLeDiff, Nat.reduceMul, Int.reduceNeg, Int.reduceToNat, Int.reduceEq, Int.reduceLT, Int.reduceLE, reduceCtorEq, hi, hw, hg, hix, hxi]
    refine ih _ ?_
    have e2 : l.length - i = (l.length - (i + 1)) + 1 := by omega
    rw [hI, List.set_append_right _ _ (by simp; omega), List.take_add_one, hq, e2, List.replicate_succ]
    simp [Nat.min_eq_left (Nat.le_of_lt hi)]
  · rintro x hI
    have hx : x = l := by rw [hI]; simp
    subst hx
    simp only [go_sem, ↓reduceIte, Nat.reduceAdd, Nat.reduceSub, Nat.reduceEqDiff, Nat.reduceLT, Nat.reduceLeDiff, Nat.reduceMul, Int.reduceNeg, Int.reduceToNat, Int.reduceEq, Int.reduceLT, Int.reduceLE, reduceCtorEq]
@[go_sem] theorem toRow_R (r : DRow) (hl : r.doc.cells.length ≤ 1099511627776) : R S0 119 [.agg [.int .i64 r.id, .str r.doc.key, .sl (r.doc.cells.map Cell.pv)]] = some ⟨[none], .agg [.int .i64 r.id, .str r.doc.key, .slo 2 (r.doc.cells.map Cell.pv)]⟩ := by
  refine go119 rfl ?_; simp only [go_sem, ↓reduceIte, Nat.reduceAdd, Nat.reduceSub, Nat.reduceEqDiff, Nat.reduceLT, Nat.reduceLeDiff, Nat.reduceMul, Int.reduceNeg, Int.reduceToNat, Int.reduceEq, Int.reduceLT, Int.reduceLE, reduceCtorEq, Tryz.f119, hl]
theorem toRowS_R (l : List DRow) (hl : l.length ≤ 1099511627776) (hs : ∀ x ∈ l, x.doc.cells.length ≤ 1099511627776) : R S0 56 [.sl (l.map DRow.pvF)] = some ⟨[none], .slo 3 (l.map DRow.pv)⟩ := by
  have h1 : l.length * 56 ≤ 140737488355328 := by omega
  have e1 : List.replicate l.length (PV.agg [.int .i64 0, .str [], .slo 2 []]) = (List.replicate l.length (DRow.mk 0 (Doc.mk [] []))).map DRow.pv := by rw [List.map_replicate]; rfl
  refine go56 rfl ?_; simp only [go_sem, ↓reduceIte, Nat.reduceAdd, Nat.reduceSub, Nat.reduceEqDiff, Nat.reduceLT, Nat.reduceLeDiff, Nat.reduceMul, Int.reduceNeg, Int.reduceToNat, Int.reduceEq, Int.reduceLT, Int.reduceLE, reduceCtorEq, Tryz.f56, h1, e1]
  refine ⟨by omega, ?_⟩
  refine ends_for l.length (by omega) (fun i (x : List DRow) => mkSt [(0, .sl (l.map DRow.pvF)), (3, .own 0), (4, .int .i64 i)] [.slo 3 (x.map DRow.pv)]) (fun i x => x = l.take i ++ List.replicate (l.length - i) (DRow.mk 0 (Doc.mk [] []))) 0 (List.replicate l.length (DRow.mk 0 (Doc.mk [] []))) (by omega) (by simp) ?_ ?_
  · rintro i x hi hI hw ih
    obtain ⟨q, hq, hg, hd⟩ := drop_get hi default
    have hr := toRow_R q (hs q (List.mem_of_getElem? hq))
    have hxl : x.length = l.length := by rw [hI]; simp; omega
    have hix : i < x.length := by omega
    have hxi : x[i]? = some (x[i]'hix) := List.getElem?_eq_getElem hix
    simp only [go_sem, ↓reduceIte, Nat.reduceAdd, Nat.reduceSub, Nat.reduceEqDiff, Nat.reduceLT, Nat.reduceLeDiff, Nat.reduceMul, Int.reduceNeg, Int.reduceToNat, Int.reduceEq, Int.reduceLT, Int.reduceLE, reduceCtorEq, hi, hw, hg, hq, hr, hix, hxi]
    refine ih _ ?_
    have e2 : l.length - i = (l.length - (i + 1)) + 1 := by omega
    rw [hI, List.set_append_right _ _ (by simp; omega), List.take_add_one, hq, e2, List.replicate_succ]
    simp [Nat.min_eq_left (Nat.le_of_lt hi)]
  · rintro x hI
    simp only [go_sem, ↓reduceIte, Nat.reduceAdd, Nat.reduceSub, Nat.reduceEqDiff, Nat.reduceLT, Nat.reduceLeDiff, Nat.reduceMul, Int.reduceNeg, Int.reduceToNat, Int.reduceEq, Int.reduceLT, Int.reduceLE, reduceCtorEq]
    rw [hI]
    simp
@[go_sem] theorem toPost_R (x : Post) (hl : x.ats.length ≤ 1099511627776) : R S0 223 [.agg [.int .i64 x.doc, .sl (x.ats.map (PV.int .i64))]] = some ⟨[none], .agg [.int .i64 x.doc, .slo 1 (x.ats.map (PV.int .i64))]⟩ := by
  refine go223 rfl ?_; simp only [go_sem, ↓reduceIte, Nat.reduceAdd, Nat.reduceSub, Nat.reduceEqDiff, Nat.reduceLT, Nat.reduceLeDiff, Nat.reduceMul, Int.reduceNeg, Int.reduceToNat, Int.reduceEq, Int.reduceLT, Int.reduceLE, reduceCtorEq, Tryz.f223, hl]
theorem toPostS_R (l : List Post) (hl : l.length ≤ 1099511627776) (hs : ∀ x ∈ l, x.ats.length ≤ 1099511627776) : R S0 178 [.sl (l.map Post.pvF)] = some ⟨[none], .slo 2 (l.map Post.pv)⟩ := by
  have h1 : l.length * 32 ≤ 140737488355328 := by omega
  have e1 : List.replicate l.length (PV.agg [.int .i64 0, .slo 1 []]) = (List.replicate l.length (Post.mk 0 [])).map Post.pv := by rw [List.map_replicate]; rfl
  refine go178 rfl ?_; simp only [go_sem, ↓reduceIte, Nat.reduceAdd, Nat.reduceSub, Nat.reduceEqDiff, Nat.reduceLT, Nat.reduceLeDiff, Nat.reduceMul, Int.reduceNeg, Int.reduceToNat, Int.reduceEq, Int.reduceLT, Int.reduceLE, reduceCtorEq, Tryz.f178, h1, e1]
  refine ends_for l.length (by omega) (fun i (x : List Post) => mkSt [(0, .sl (l.map Post.pvF)), (3, .own 0), (4, .int .i64 i)] [.slo 2 (x.map Post.pv)]) (fun i x => x = l.take i ++ List.replicate (l.length - i) (Post.mk 0 [])) 0 (List.replicate l.length (Post.mk 0 [])) (by omega) (by simp) ?_ ?_
  · rintro i x hi hI hw ih
    obtain ⟨q, hq, hg, hd⟩ := drop_get hi default
    have hr := toPost_R q (hs q (List.mem_of_getElem? hq))
    have hxl : x.length = l.length := by rw [hI]; simp; omega
    have hix : i < x.length := by omega
    have hxi : x[i]? = some (x[i]'hix) := List.getElem?_eq_getElem hix
    simp only [go_sem, ↓reduceIte, Nat.reduceAdd, Nat.reduceSub, Nat.reduceEqDiff, Nat.reduceLT, Nat.reduceLeDiff, Nat.reduceMul, Int.reduceNeg, Int.reduceToNat, Int.reduceEq, Int.reduceLT, Int.reduceLE, reduceCtorEq, hi, hw, hg, hq, hr, hix, hxi]
    refine ih _ ?_
    have e2 : l.length - i = (l.length - (i + 1)) + 1 := by omega
    rw [hI, List.set_append_right _ _ (by simp; omega), List.take_add_one, hq, e2, List.replicate_succ]
    simp [Nat.min_eq_left (Nat.le_of_lt hi)]
  · rintro x hI
    simp only [go_sem, ↓reduceIte, Nat.reduceAdd, Nat.reduceSub, Nat.reduceEqDiff, Nat.reduceLT, Nat.reduceLeDiff, Nat.reduceMul, Int.reduceNeg, Int.reduceToNat, Int.reduceEq, Int.reduceLT, Int.reduceLE, reduceCtorEq]
    rw [hI]
    simp
theorem toEntry_R (e : Entry) (hl : e.posts.length ≤ 1099511627776) (hs : ∀ x ∈ e.posts, x.ats.length ≤ 1099511627776) : R S0 120 [.agg [.str e.field, .str e.term, .sl (e.posts.map Post.pvF)]] = some ⟨[none], .agg [.str e.field, .str e.term, .slo 2 (e.posts.map Post.pv)]⟩ := by
  have hr := toPostS_R e.posts hl hs
  refine go120 rfl ?_; simp only [go_sem, ↓reduceIte, Nat.reduceAdd, Nat.reduceSub, Nat.reduceEqDiff, Nat.reduceLT, Nat.reduceLeDiff, Nat.reduceMul, Int.reduceNeg, Int.reduceToNat, Int.reduceEq, Int.reduceLT, Int.reduceLE, reduceCtorEq, Tryz.f120, hr]
theorem toEntryS_R (l : List Entry) (hl : l.length ≤ 1099511627776) (hs : ∀ x ∈ l, x.posts.length ≤ 1099511627776 ∧ ∀ y ∈ x.posts, y.ats.length ≤ 1099511627776) : R S0 57 [.sl (l.map Entry.pvF)] = some ⟨[none], .slo 3 (l.map Entry.pv)⟩ := by
  have h1 : l.length * 56 ≤ 140737488355328 := by omega
  have e1 : List.replicate l.length (PV.agg [.str [], .str [], .slo 2 []]) = (List.replicate l.length (Entry.mk [] [] [])).map Entry.pv := by rw [List.map_replicate]; rfl
  refine go57 rfl ?_; simp only [go_sem, ↓reduceIte, Nat.reduceAdd, Nat.reduceSub, Nat.reduceEqDiff, Nat.reduceLT, Nat.reduceLeDiff, Nat.reduceMul, Int.reduceNeg, Int.reduceToNat, Int.reduceEq, Int.reduceLT, Int.reduceLE, reduceCtorEq, Tryz.f57, h1, e1]
  refine ends_for l.length (by omega) (fun i (x : List Entry) => mkSt [(0, .sl (l.map Entry.pvF)), (3, .own 0), (4, .int .i64 i)] [.slo 3 (x.map Entry.pv)]) (fun i x => x = l.take i ++ List.replicate (l.length - i) (Entry.mk [] [] [])) 0 (List.replicate l.length (Entry.mk [] [] [])) (by omega) (by simp) ?_ ?_
  · rintro i x hi hI hw ih
    obtain ⟨q, hq, hg, hd⟩ := drop_get hi default
    have hr := toEntry_R q (hs q (List.mem_of_getElem? hq)).1 (hs q (List.mem_of_getElem? hq)).2
    have hxl : x.length = l.length := by rw [hI]; simp; omega
    have hix : i < x.length := by omega
    have hxi : x[i]? = some (x[i]'hix) := List.getElem?_eq_getElem hix
    simp only [go_sem, ↓reduceIte, Nat.reduceAdd, Nat.reduceSub, Nat.reduceEqDiff, Nat.reduceLT, Nat.reduceLeDiff, Nat.reduceMul, Int.reduceNeg, Int.reduceToNat, Int.reduceEq, Int.reduceLT, Int.reduceLE, reduceCtorEq, hi, hw, hg, hq, hr, hix, hxi]
    refine ih _ ?_
    have e2 : l.length - i = (l.length - (i + 1)) + 1 := by omega
    rw [hI, List.set_append_right _ _ (by simp; omega), List.take_add_one, hq, e2, List.replicate_succ]
    simp [Nat.min_eq_left (Nat.le_of_lt hi)]
  · rintro x hI
    simp only [go_sem, ↓reduceIte, Nat.reduceAdd, Nat.reduceSub, Nat.reduceEqDiff, Nat.reduceLT, Nat.reduceLeDiff, Nat.reduceMul, Int.reduceNeg, Int.reduceToNat, Int.reduceEq, Int.reduceLT, Int.reduceLE, reduceCtorEq]
    rw [hI]
    simp
theorem toIndex_R (fl : List Field) (rows : List DRow) (ents : List Entry) (nx : Int) (hfl : FSm fl) (hr : RowsM rows) (he : EntSm ents) : R S0 12 [.agg [.sl (fl.map Field.pv), .sl (rows.map DRow.pvF), .sl (ents.map Entry.pvF), .int .i64 nx]] = some ⟨[none], .agg [.slo 3 (fl.map Field.pv), .slo 3 (rows.map DRow.pv), .slo 3 (ents.map Entry.pv), .int .i64 nx]⟩ := by
  have hf1 : fl.length ≤ 1099511627776 := hfl.1
  have h1 := toRowS_R rows hr.1 fun r h => (hr.2 r h).2.1
  have h2 := toEntryS_R ents he.1 he.2
  refine go12 rfl ?_; simp only [go_sem, ↓reduceIte, Nat.reduceAdd, Nat.reduceSub, Nat.reduceEqDiff, Nat.reduceLT, Nat.reduceLeDiff, Nat.reduceMul, Int.reduceNeg, Int.reduceToNat, Int.reduceEq, Int.reduceLT, Int.reduceLE, reduceCtorEq, Tryz.f12, hf1, h1, h2]
@[go_sem] theorem eqIntS_R (l : List Int) (hl : l.length ≤ 1099511627776) : R S0 17 [.sl (l.map (PV.int .i64)), .sl (l.map (PV.int .i64))] = some ⟨[none, none], .bool true⟩ := by
  refine go17 rfl ?_; simp only [go_sem, ↓reduceIte, Nat.reduceAdd, Nat.reduceSub, Nat.reduceEqDiff, Nat.reduceLT, Nat.reduceLeDiff, Nat.reduceMul, Int.reduceNeg, Int.reduceToNat, Int.reduceEq, Int.reduceLT, Int.reduceLE, reduceCtorEq, Tryz.f17]
  refine ends_for l.length (by omega) (fun i _ => mkSt [(0, .sl (l.map (PV.int .i64))), (1, .sl (l.map (PV.int .i64))), (5, .int .i64 i)] []) (fun i _ => True) 0 () (by omega) trivial ?_ ?_
  · rintro i _ hi - hw ih
    obtain ⟨q, hq, hg, hd⟩ := drop_get hi default
    simp only [go_sem, ↓reduceIte, Nat.reduceAdd, Nat.reduceSub, Nat.reduceEqDiff, Nat.reduceLT, Nat.reduceLeDiff, Nat.reduceMul, Int.reduceNeg, Int.reduceToNat, Int.reduceEq, Int.reduceLT, Int.reduceLE, reduceCtorEq, hi, hw, hg]
    exact ih () trivial
  · rintro _ -
    simp only [go_sem, ↓reduceIte, Nat.reduceAdd, Nat.reduceSub, Nat.reduceEqDiff, Nat.reduceLT, Nat.reduceLeDiff, Nat.reduceMul, Int.reduceNeg, Int.reduceToNat, Int.reduceEq, Int.reduceLT, Int.reduceLE, reduceCtorEq]
@[go_sem] theorem eqRow_R (r : DRow) (hl : r.doc.cells.length ≤ 1099511627776) : R S0 128 [.agg [.int .i64 r.id, .str r.doc.key, .sl (r.doc.cells.map Cell.pv)], .agg [.int .i64 r.id, .str r.doc.key, .sl (r.doc.cells.map Cell.pv)]] = some ⟨[none, none], .bool true⟩ := by
  have h := eqDoc_R r.doc hl
  refine go128 rfl ?_; simp only [go_sem, ↓reduceIte, Nat.reduceAdd, Nat.reduceSub, Nat.reduceEqDiff, Nat.reduceLT, Nat.reduceLeDiff, Nat.reduceMul, Int.reduceNeg, Int.reduceToNat, Int.reduceEq, Int.reduceLT, Int.reduceLE, reduceCtorEq, Tryz.f128, h]
@[go_sem] theorem eqPost_R (x : Post) (hl : x.ats.length ≤ 1099511627776) : R S0 230 [.agg [.int .i64 x.doc, .sl (x.ats.map (PV.int .i64))], .agg [.int .i64 x.doc, .sl (x.ats.map (PV.int .i64))]] = some ⟨[none, none], .bool true⟩ := by
  refine go230 rfl ?_; simp only [go_sem, ↓reduceIte, Nat.reduceAdd, Nat.reduceSub, Nat.reduceEqDiff, Nat.reduceLT, Nat.reduceLeDiff, Nat.reduceMul, Int.reduceNeg, Int.reduceToNat, Int.reduceEq, Int.reduceLT, Int.reduceLE, reduceCtorEq, Tryz.f230, hl]
theorem eqRowS_R (l : List DRow) (hl : l.length ≤ 1099511627776) (hs : ∀ x ∈ l, x.doc.cells.length ≤ 1099511627776) : R S0 61 [.sl (l.map DRow.pvF), .sl (l.map DRow.pvF)] = some ⟨[none, none], .bool true⟩ := by
  refine go61 rfl ?_; simp only [go_sem, ↓reduceIte, Nat.reduceAdd, Nat.reduceSub, Nat.reduceEqDiff, Nat.reduceLT, Nat.reduceLeDiff, Nat.reduceMul, Int.reduceNeg, Int.reduceToNat, Int.reduceEq, Int.reduceLT, Int.reduceLE, reduceCtorEq, Tryz.f61]
  refine ends_for l.length (by omega) (fun i _ => mkSt [(0, .sl (l.map DRow.pvF)), (1, .sl (l.map DRow.pvF)), (5, .int .i64 i)] []) (fun i _ => True) 0 () (by omega) trivial ?_ ?_
  · rintro i _ hi - hw ih
    obtain ⟨q, hq, hg, hd⟩ := drop_get hi default
    have hr := eqRow_R q (hs q (List.mem_of_getElem? hq))
    simp only [go_sem, ↓reduceIte, Nat.reduceAdd, Nat.reduceSub, Nat.reduceEqDiff, Nat.reduceLT, Nat.reduceLeDiff, Nat.reduceMul, Int.reduceNeg, Int.reduceToNat, Int.reduceEq, Int.reduceLT, Int.reduceLE, reduceCtorEq, hi, hw, hg, hq, hr]
    exact ih () trivial
  · rintro _ -
    simp only [go_sem, ↓reduceIte, Nat.reduceAdd, Nat.reduceSub, Nat.reduceEqDiff, Nat.reduceLT, Nat.reduceLeDiff, Nat.reduceMul, Int.reduceNeg, Int.reduceToNat, Int.reduceEq, Int.reduceLT, Int.reduceLE, reduceCtorEq]
theorem eqPostS_R (l : List Post) (hl : l.length ≤ 1099511627776) (hs : ∀ x ∈ l, x.ats.length ≤ 1099511627776) : R S0 187 [.sl (l.map Post.pvF), .sl (l.map Post.pvF)] = some ⟨[none, none], .bool true⟩ := by
  refine go187 rfl ?_; simp only [go_sem, ↓reduceIte, Nat.reduceAdd, Nat.reduceSub, Nat.reduceEqDiff, Nat.reduceLT, Nat.reduceLeDiff, Nat.reduceMul, Int.reduceNeg, Int.reduceToNat, Int.reduceEq, Int.reduceLT, Int.reduceLE, reduceCtorEq, Tryz.f187]
  refine ends_for l.length (by omega) (fun i _ => mkSt [(0, .sl (l.map Post.pvF)), (1, .sl (l.map Post.pvF)), (5, .int .i64 i)] []) (fun i _ => True) 0 () (by omega) trivial ?_ ?_
  · rintro i _ hi - hw ih
    obtain ⟨q, hq, hg, hd⟩ := drop_get hi default
    have hr := eqPost_R q (hs q (List.mem_of_getElem? hq))
    simp only [go_sem, ↓reduceIte, Nat.reduceAdd, Nat.reduceSub, Nat.reduceEqDiff, Nat.reduceLT, Nat.reduceLeDiff, Nat.reduceMul, Int.reduceNeg, Int.reduceToNat, Int.reduceEq, Int.reduceLT, Int.reduceLE, reduceCtorEq, hi, hw, hg, hq, hr]
    exact ih () trivial
  · rintro _ -
    simp only [go_sem, ↓reduceIte, Nat.reduceAdd, Nat.reduceSub, Nat.reduceEqDiff, Nat.reduceLT, Nat.reduceLeDiff, Nat.reduceMul, Int.reduceNeg, Int.reduceToNat, Int.reduceEq, Int.reduceLT, Int.reduceLE, reduceCtorEq]
theorem eqEntry_R (e : Entry) (hl : e.posts.length ≤ 1099511627776) (hs : ∀ x ∈ e.posts, x.ats.length ≤ 1099511627776) : R S0 129 [.agg [.str e.field, .str e.term, .sl (e.posts.map Post.pvF)], .agg [.str e.field, .str e.term, .sl (e.posts.map Post.pvF)]] = some ⟨[none, none], .bool true⟩ := by
  have h := eqPostS_R e.posts hl hs
  refine go129 rfl ?_; simp only [go_sem, ↓reduceIte, Nat.reduceAdd, Nat.reduceSub, Nat.reduceEqDiff, Nat.reduceLT, Nat.reduceLeDiff, Nat.reduceMul, Int.reduceNeg, Int.reduceToNat, Int.reduceEq, Int.reduceLT, Int.reduceLE, reduceCtorEq, Tryz.f129, h]
theorem eqEntryS_R (l : List Entry) (hl : l.length ≤ 1099511627776) (hs : ∀ x ∈ l, x.posts.length ≤ 1099511627776 ∧ ∀ y ∈ x.posts, y.ats.length ≤ 1099511627776) : R S0 62 [.sl (l.map Entry.pvF), .sl (l.map Entry.pvF)] = some ⟨[none, none], .bool true⟩ := by
  refine go62 rfl ?_; simp only [go_sem, ↓reduceIte, Nat.reduceAdd, Nat.reduceSub, Nat.reduceEqDiff, Nat.reduceLT, Nat.reduceLeDiff, Nat.reduceMul, Int.reduceNeg, Int.reduceToNat, Int.reduceEq, Int.reduceLT, Int.reduceLE, reduceCtorEq, Tryz.f62]
  refine ends_for l.length (by omega) (fun i _ => mkSt [(0, .sl (l.map Entry.pvF)), (1, .sl (l.map Entry.pvF)), (5, .int .i64 i)] []) (fun i _ => True) 0 () (by omega) trivial ?_ ?_
  · rintro i _ hi - hw ih
    obtain ⟨q, hq, hg, hd⟩ := drop_get hi default
    have hr := eqEntry_R q (hs q (List.mem_of_getElem? hq)).1 (hs q (List.mem_of_getElem? hq)).2
    simp only [go_sem, ↓reduceIte, Nat.reduceAdd, Nat.reduceSub, Nat.reduceEqDiff, Nat.reduceLT, Nat.reduceLeDiff, Nat.reduceMul, Int.reduceNeg, Int.reduceToNat, Int.reduceEq, Int.reduceLT, Int.reduceLE, reduceCtorEq, hi, hw, hg, hq, hr]
    exact ih () trivial
  · rintro _ -
    simp only [go_sem, ↓reduceIte, Nat.reduceAdd, Nat.reduceSub, Nat.reduceEqDiff, Nat.reduceLT, Nat.reduceLeDiff, Nat.reduceMul, Int.reduceNeg, Int.reduceToNat, Int.reduceEq, Int.reduceLT, Int.reduceLE, reduceCtorEq]
theorem eqIndex_R (fl : List Field) (rows : List DRow) (ents : List Entry) (nx : Int) (hfl : FSm fl) (hr : RowsM rows) (he : EntSm ents) : R S0 16 [.agg [.sl (fl.map Field.pv), .sl (rows.map DRow.pvF), .sl (ents.map Entry.pvF), .int .i64 nx], .agg [.sl (fl.map Field.pv), .sl (rows.map DRow.pvF), .sl (ents.map Entry.pvF), .int .i64 nx]] = some ⟨[none, none], .bool true⟩ := by
  have hf1 : fl.length ≤ 1099511627776 := hfl.1
  have h1 := eqRowS_R rows hr.1 fun r h => (hr.2 r h).2.1
  have h2 := eqEntryS_R ents he.1 he.2
  refine go16 rfl ?_; simp only [go_sem, ↓reduceIte, Nat.reduceAdd, Nat.reduceSub, Nat.reduceEqDiff, Nat.reduceLT, Nat.reduceLeDiff, Nat.reduceMul, Int.reduceNeg, Int.reduceToNat, Int.reduceEq, Int.reduceLT, Int.reduceLE, reduceCtorEq, Tryz.f16, hf1, h1, h2]
end Go.Proofs.YtmanllfmgghadaaGreatDoor.PVE
