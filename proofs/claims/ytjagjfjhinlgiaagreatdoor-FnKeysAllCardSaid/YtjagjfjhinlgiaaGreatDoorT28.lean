/- The ranking (reference), drawn pages, pages. -/
import Derived.Test.YtjagjfjhinlgiaaGreatDoorT27
set_option linter.unusedVariables false
set_option linter.unusedSimpArgs false
set_option maxRecDepth 100000
namespace Go.Proofs.YtjagjfjhinlgiaaGreatDoor.PVE
open PV Query
theorem wrap_nat {n : Nat} (h : n ≤ 9223372036854775807) : IntKind.i64.wrap (n : Int) = n := wrap_in (by omega) (by omega)
/-! ### The score -/
def leafScore (fl : List Field) (rows : List DRow) (d : Doc) (q : Query) : Nat := if (findS fl rows q).length = 0 then 0 else weightN fl d q * (100 * rows.length / (findS fl rows q).length)
mutual
def scoreN (fl : List Field) (rows : List DRow) (d : Doc) : Query → Nat | .mk k f t lo hi p => if k = 7 ∨ k = 8 then scoreL fl rows d p else if k = 2 ∨ k = 3 ∨ k = 4 then leafScore fl rows d (.mk k f t lo hi p) else 0
def scoreL (fl : List Field) (rows : List DRow) (d : Doc) : List Query → Nat
  | [] => 0
  | q :: qs => scoreN fl rows d q + scoreL fl rows d qs
end
theorem scoreL_sum (fl : List Field) (rows : List DRow) (d : Doc) : ∀ p, scoreL fl rows d p = (p.map (scoreN fl rows d)).sum
  | [] => rfl
  | q :: p => by rw [scoreL, List.map_cons, List.sum_cons, scoreL_sum fl rows d p]
theorem scoreN_eq (fl : List Field) (rows : List DRow) (d : Doc) : ∀ q : Query, scoreN fl rows d q = if q.kind = 7 ∨ q.kind = 8 then (q.parts.map (scoreN fl rows d)).sum else if q.kind = 2 ∨ q.kind = 3 ∨ q.kind = 4 then leafScore fl rows d q else 0
  | .mk k f t lo hi p => by rw [scoreN, scoreL_sum]; rfl
theorem weightN_le {fl : List Field} {d : Doc} (h : docOk fl d = true) (q : Query) : weightN fl d q ≤ 2196 := by
  have := sumW_le h q (cs := d.cells) (fun c hc => hc)
  have := (docOk_parts h).2.1
  unfold weightN
  omega
theorem leafScore_le {fl : List Field} {rows : List DRow} {d : Doc} (h : docOk fl d = true) (hr : rows.length ≤ 8) (q : Query) : leafScore fl rows d q ≤ 1756800 := by
  unfold leafScore
  split
  · omega
  · have h1 := weightN_le h q
    have h2 : 100 * rows.length / (findS fl rows q).length ≤ 800 := Nat.le_trans (Nat.div_le_self _ _) (by omega)
    calc weightN fl d q * (100 * rows.length / (findS fl rows q).length) ≤ 2196 * 800 := Nat.mul_le_mul h1 h2
      _ = 1756800 := rfl
theorem parts_le {q : Query} (h : nodeOk q = true) : q.parts.length ≤ 4 := by
  unfold nodeOk at h
  split at h
  · rename_i hp; rw [hp]; simp
  · simp [inB] at h
    rcases h.1.1.1.1 with h | h
    · omega
    · rw [h.2]; omega
theorem sum_le {α : Type} {f : α → Nat} {k : Nat} : ∀ {l : List α}, (∀ x ∈ l, f x ≤ k) → (l.map f).sum ≤ k * l.length
  | [], _ => by simp
  | x :: l, h => by
    have h1 := h x (by simp)
    have h2 := sum_le (l := l) fun y hy => h y (by simp [hy])
    simp only [List.map_cons, List.sum_cons, List.length_cons, Nat.mul_succ]; omega
theorem scoreN_le {fl : List Field} {rows : List DRow} {d : Doc} (h : docOk fl d = true) (hr : rows.length ≤ 8) : ∀ (dp : Nat) (q : Query), okQ dp q = true → scoreN fl rows d q ≤ 1756800 * 4 ^ dp
  | 0, q, hq => by cases hq
  | dp + 1, q, hq => by
    simp only [okQ, Bool.and_eq_true, List.all_eq_true] at hq
    have hp := parts_le hq.1
    have h4 : 1 ≤ 4 ^ (dp + 1) := Nat.pos_of_ne_zero (by simp)
    rw [scoreN_eq]
    split
    · have hs := sum_le (l := q.parts) fun x hx => scoreN_le h hr dp x (hq.2 x hx)
      refine Nat.le_trans hs ?_
      rw [Nat.pow_succ, ← Nat.mul_assoc]
      exact Nat.mul_le_mul_left _ hp
    · split
      · have := leafScore_le h hr q
        calc leafScore fl rows d q ≤ 1756800 * 1 := by omega
          _ ≤ _ := Nat.mul_le_mul_left _ h4
      · omega
/-! ### Hits -/
structure Hit where
  doc : Int
  key : Str
  score : Int
  deriving Inhabited, DecidableEq
def Hit.pv (h : Hit) : PV := .agg [.int .i64 h.doc, .str h.key, .int .i64 h.score]
instance : Enc Hit.pv 3 := ⟨fun _ => by simp only [Hit.pv, PV.free, PV.freeL, and_self], fun _ => by simp only [Hit.pv, PV.okr, PV.okrL, and_self], fun _ => rfl⟩
instance : EncF Hit.pv := ⟨fun _ => rfl⟩
instance : EncN Hit.pv := ⟨fun _ => by simp only [Hit.pv, PV.noR, PV.noRL, and_self]⟩
instance : EncS Hit.pv Hit.pv := ⟨fun _ => rfl⟩
@[go_sem] theorem Hit.cells (h : Hit) : h.pv.cells = [.int .i64 h.doc, .str h.key, .int .i64 h.score] := rfl
@[go_sem] theorem Hit.mid (l m : List Hit) (a : Int) (k : Str) (s : Int) : l.map Hit.pv ++ .agg [.int .i64 a, .str k, .int .i64 s] :: m.map Hit.pv = (l ++ Hit.mk a k s :: m).map Hit.pv := by simp [Hit.pv]
def ahead (h x : Hit) : Bool := decide (h.score < x.score) || (decide (x.score = h.score) && Op.bytesLess x.key h.key)
def putK (l : List Hit) (h : Hit) : Nat := (l.takeWhile (ahead h)).length
def putHit (l : List Hit) (h : Hit) : List Hit := l.take (putK l h) ++ h :: l.drop (putK l h)
theorem putHit_len (l : List Hit) (h : Hit) : (putHit l h).length = l.length + 1 := by
  have := (List.takeWhile_sublist (l := l) (ahead h)).length_le
  simp only [putHit, putK, List.length_append, List.length_take, List.length_cons, List.length_drop]; omega
/-! ### The ranking -/
def rankTo (fl : List Field) (rows : List DRow) (q : Query) : Nat → List Hit
  | 0 => []
  | k + 1 => if meetsM fl (rows.getD k default).doc q = true then putHit (rankTo fl rows q k) ⟨(rows.getD k default).id, (rows.getD k default).doc.key, scoreN fl rows (rows.getD k default).doc q⟩ else rankTo fl rows q k
def askOk (fl : List Field) (rows : List DRow) (ents : List Entry) (nx : Int) (q : Query) : Bool := indexOkS fl rows ents nx && (fieldsOk fl && okQ 4 q && fitsI fl q)
def rankS (fl : List Field) (rows : List DRow) (ents : List Entry) (nx : Int) (q : Query) : List Hit := if askOk fl rows ents nx q = true then rankTo fl rows q rows.length else []
theorem rankTo_len (fl : List Field) (rows : List DRow) (q : Query) : ∀ k, (rankTo fl rows q k).length ≤ k
  | 0 => Nat.le_refl _
  | k + 1 => by
    have := rankTo_len fl rows q k
    rw [rankTo]
    split
    · rw [putHit_len]; omega
    · omega
theorem indexOk_rows {fl : List Field} {rows : List DRow} {ents : List Entry} {nx : Int} (h : indexOkS fl rows ents nx = true) : RowsD fl rows := by
  simp only [indexOkS, Bool.and_eq_true, decide_eq_true_eq] at h
  refine ⟨h.2.1.1.2, fun r hr => ?_⟩
  obtain ⟨i, hi, rfl⟩ := List.getElem_of_mem hr
  have := rowsOkTo_all.1 h.1 i hi
  simp only [rowOkS, Bool.and_eq_true, List.getD_eq_getElem?_getD, List.getElem?_eq_getElem hi, Option.getD_some] at this
  exact this.1.1.1
theorem rankS_len (fl : List Field) (rows : List DRow) (ents : List Entry) (nx : Int) (q : Query) : (rankS fl rows ents nx q).length ≤ 8 := by
  unfold rankS
  split
  · rename_i h
    simp only [askOk, Bool.and_eq_true] at h
    exact Nat.le_trans (rankTo_len _ _ _ _) (indexOk_rows h.1).1
  · simp
/-! ### Drawn pages, pages -/
def DPPost (r : Ans) : Prop := ∃ hits : List Hit, ∃ a b : Int, r = ⟨[none], .tup [.slo 3 (hits.map Hit.pv), .int .i64 a, .int .i64 b]⟩ ∧ hits.length ≤ 8
def pageS (l : List Hit) (a b : Int) : List Hit := if (inB a 0 1000 && inB b 0 1000) = true then (l.drop a.toNat).take b.toNat else []
end Go.Proofs.YtjagjfjhinlgiaaGreatDoor.PVE
