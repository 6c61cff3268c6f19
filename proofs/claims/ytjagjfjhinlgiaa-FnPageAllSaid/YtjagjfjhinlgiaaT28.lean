/- The ranking (reference), drawn pages, pages. -/
import Derived.Test.YtjagjfjhinlgiaaT27
set_option linter.unusedVariables false
set_option linter.unusedSimpArgs false
set_option maxRecDepth 100000
namespace Go.Proofs.Ytjagjfjhinlgiaa.PVE
open PV Query
theorem wrap_nat {n : Nat} (h : n ≤ 9223372036854775807) : IntKind.i64.wrap (n : Int) = n := wrap_in (by omega) (by omega)
/-! ### The score -/
def leafScore (fl : List Field) (rows : List DRow) (d : Doc) (q : Query) : Nat := if (findS fl rows q).length = 0 then 0 else weightN fl d q * (100 * rows.length / (findS fl rows q).length)
mutual
def scoreN (fl : List Field) (rows : List DRow) (d : Doc) : Query → Nat | .mk k f t lo hi p => if k = 7 ∨ k = 8 then scoreL fl rows d p else if k = 2 ∨ k = 3 ∨ k = 4 then leafScore fl rows d (.mk k f t lo hi p) else 0
def scoreL (fl : List Field) (rows : List DRow) (d : Doc) : List Query → Nat
  | [] => 0
  | q :: qs => scoreN fl rows d q + scoreL fl rows d qs
end
theorem scoreL_sum (fl : List Field) (rows : List DRow) (d : Doc) : ∀ p, scoreL fl rows d p = (p.map (scoreN fl rows d)).sum
  | [] => rfl
  | q :: p => by rw [scoreL, List.map_cons, List.sum_cons, scoreL_sum fl rows d p]
theorem scoreN_eq (fl : List Field) (rows : List DRow) (d : Doc) : ∀ q : Query, scoreN fl rows d q = if q.kind = 7 ∨ q.kind = 8 then (q.parts.map (scoreN fl rows d)).sum else if q.kind = 2 ∨ q.kind = 3 ∨ q.kind = 4 then leafScore fl rows d q else 0
  | .mk k f t lo hi p => by rw [scoreN, scoreL_sum]; rfl
theorem weightN_le {fl : List Field} {d : Doc} (h : docOk fl d = true) (q : Query) : weightN fl d q ≤ 2196 := by
  have := sumW_le h q (cs := d.cells) (fun c hc => hc)
  have := (docOk_parts h).2.1
  unfold weightN
  omega
theorem leafScore_le {fl : List Field} {rows : List DRow} {d : Doc} (h : docOk fl d = true) (hr : rows.length ≤ 8) (q : Query) : leafScore fl rows d q ≤ 1756800 := by
  unfold leafScore
  split
  · omega
  · have h1 := weightN_le h q
    have h2 : 100 * rows.length / (findS fl rows q).length ≤ 800 := Nat.le_trans (Nat.div_le_self _ _) (by omega)
    calc weightN fl d q * (100 * rows.length / (findS fl rows q).length) ≤ 2196 * 800 := Nat.mul_le_mul h1 h2
      _ = 1756800 := rfl
theorem parts_le {q : Query} (h : nodeOk q = true) : q.parts.length ≤ 4 := by
  unfold nodeOk at h
  split at h
  · rename_i hp; rw [hp]; simp
  · simp [inB] at h
    rcases h.1.1.1.1 with h | h
    · omega
    · rw [h.2]; omega
theorem sum_le {α : Type} {f : α → Nat} {k : Nat} : ∀ {l : List α}, (∀ x ∈ l, f x ≤ k) → (l.map f).sum ≤ k * l.length
  | [], _ => by simp
  | x :: l, h => by
    have h1 := h x (by simp)
    have h2 := sum_le (l := l) fun y hy => h y (by simp [hy])
    simp only [List.map_cons, List.sum_cons, List.length_cons, Nat.mul_succ]; omega
theorem scoreN_le {fl : List Field} {rows : List DRow} {d : Doc} (h : docOk fl d = true) (hr : rows.length ≤ 8) : ∀ (dp : Nat) (q : Query), okQ dp q = true → scoreN fl rows d q ≤ 1756800 * 4 ^ dp
  | 0, q, hq => by cases hq
  | dp + 1, q, hq => by
    simp only [okQ, Bool.and_eq_true, List.all_eq_true] at hq
    have hp := parts_le hq.1
    have h4 : 1 ≤ 4 ^ (dp + 1) := Nat.pos_of_ne_zero (by simp)
    rw [scoreN_eq]
    split
    · have hs := sum_le (l := q.parts) fun x hx => scoreN_le h hr dp x (hq.2 x hx)
      refine Nat.le_trans hs ?_
      rw [Nat.pow_succ, ← Nat.mul_assoc]
      exact Nat.mul_le_mul_left _ hp
    · split
      · have := leafScore_le h hr q
        calc leafScore fl rows d q ≤ 1756800 * 1 := by omega
          _ ≤ _ := Nat.mul_le_mul_left _ h4
      · omega
theorem l7Score_R (fl : List Field) (rows : List DRow) (ents : List Entry) (nx : Int) (d : Doc) (hfl : FSm fl) (hr : RowsD fl rows) (hd : docOk fl d = true) (dp : Nat) : dp ≤ 4 → ∀ q : Query, q.Sm → okQ dp q = true → R S0 21 [.agg [.sl (fl.map Field.pv), .sl (rows.map DRow.pvF), .sl (ents.map Entry.pvF), .int .i64 nx], .agg [.str d.key, .sl (d.cells.map Cell.pv)], .agg [.int .i64 q.kind, .str q.field, .str q.text, .int .i64 q.low, .int .i64 q.high, .sl (q.parts.map pv)]] = some ⟨[none, none, none], .int .i64 (scoreN fl rows d q)⟩ := by
  induction dp with
  | zero => intro _ q _ h; cases h
  | succ dp ih =>
    intro hdp q hq hok
    obtain ⟨hrl, _⟩ := id hr
    obtain ⟨hfl1, _⟩ := id hfl
    obtain ⟨_, hf, ht, hp, hs⟩ := id hq
    obtain ⟨e, he, hn, hps⟩ := okQ_node hok
    obtain rfl : dp = e := by omega
    have hpl := parts_le hn
    have hfin := scoreN_eq fl rows d q
    have h4 : 4 ^ dp ≤ 64 := Nat.pow_le_pow_right (n := 4) (by omega) (show dp ≤ 3 by omega)
    by_cases k78 : q.kind = 7 ∨ q.kind = 8
    · rw [if_pos k78] at hfin
      rw [hfin]
      have hpos : ∀ i, i ≤ q.parts.length → ((q.parts.take i).map (scoreN fl rows d)).sum ≤ 112435200 * 4 := fun i hi => by
        have := sum_le (l := q.parts.take i) (f := scoreN fl rows d) (k := 112435200) fun x hx => by
          have h1 := scoreN_le hd hrl dp x (hps x (List.mem_of_mem_take hx))
          exact Nat.le_trans h1 (Nat.mul_le_mul_left 1756800 h4)
        refine Nat.le_trans this (Nat.mul_le_mul_left _ ?_)
        simp; omega
      by_cases k7 : q.kind = 7
      · refine go21 rfl ?_; simp only [go_sem, ↓reduceIte, Nat.reduceAdd, Nat.reduceSub, Nat.reduceEqDiff, Nat.reduceLT, Nat.reduceLeDiff, Nat.reduceMul, Int.reduceNeg, Int.reduceToNat, Int.reduceEq, Int.reduceLT, Int.reduceLE, reduceCtorEq, Try.f21, k7]
        refine ends_for q.parts.length (by omega) (fun i (n : Nat) => mkSt [(3, .addr 0 0 0), (4, .addr 1 0 0), (5, .addr 2 0 0), (7, .int .i64 n), (8, .int .i64 i)] [.pto [.sl (fl.map Field.pv), .sl (rows.map DRow.pvF), .sl (ents.map Entry.pvF), .int .i64 nx], .pto [.str d.key, .sl (d.cells.map Cell.pv)], .pto [.int .i64 7, .str q.field, .str q.text, .int .i64 q.low, .int .i64 q.high, .sl (q.parts.map pv)]]) (fun i n => n = ((q.parts.take i).map (scoreN fl rows d)).sum) 0 0 (by omega) (by simp) ?_ ?_
        · rintro i n hi hI hw ihl
          obtain ⟨x, hx, hg, _⟩ := drop_get hi default
          have hxm := List.mem_of_getElem? hx
          have hS := ih (by omega) x (hs x hxm) (hps x hxm)
          have hb1 := hpos (i + 1) (by omega)
          have hnext : ((q.parts.take (i + 1)).map (scoreN fl rows d)).sum = n + scoreN fl rows d x := by rw [List.take_add_one, hx, List.map_append, List.sum_append, hI]; simp
          have hw2 : IntKind.i64.wrap ((n : Int) + ((scoreN fl rows d x : Nat) : Int)) = ((n + scoreN fl rows d x : Nat) : Int) := by rw [wrap_in (by omega) (by omega)]; omega
          simp only [go_sem, ↓reduceIte, Nat.reduceAdd, Nat.reduceSub, Nat.reduceEqDiff, Nat.reduceLT, Nat.reduceLeDiff, Nat.reduceMul, Int.reduceNeg, Int.reduceToNat, Int.reduceEq, Int.reduceLT, Int.reduceLE, reduceCtorEq, hi, hw, hg, hx, hS, hw2]
          exact ihl _ hnext.symm
        · rintro n hI
          rw [List.take_length] at hI
          simp only [go_sem, ↓reduceIte, Nat.reduceAdd, Nat.reduceSub, Nat.reduceEqDiff, Nat.reduceLT, Nat.reduceLeDiff, Nat.reduceMul, Int.reduceNeg, Int.reduceToNat, Int.reduceEq, Int.reduceLT, Int.reduceLE, reduceCtorEq]
          rw [hI]
      · have k8 := k78.resolve_left k7
        refine go21 rfl ?_; simp only [go_sem, ↓reduceIte, Nat.reduceAdd, Nat.reduceSub, Nat.reduceEqDiff, Nat.reduceLT, Nat.reduceLeDiff, Nat.reduceMul, Int.reduceNeg, Int.reduceToNat, Int.reduceEq, Int.reduceLT, Int.reduceLE, reduceCtorEq, Try.f21, k8]
        refine ends_for q.parts.length (by omega) (fun i (n : Nat) => mkSt [(3, .addr 0 0 0), (4, .addr 1 0 0), (5, .addr 2 0 0), (7, .int .i64 n), (8, .int .i64 i)] [.pto [.sl (fl.map Field.pv), .sl (rows.map DRow.pvF), .sl (ents.map Entry.pvF), .int .i64 nx], .pto [.str d.key, .sl (d.cells.map Cell.pv)], .pto [.int .i64 8, .str q.field, .str q.text, .int .i64 q.low, .int .i64 q.high, .sl (q.parts.map pv)]]) (fun i n => n = ((q.parts.take i).map (scoreN fl rows d)).sum) 0 0 (by omega) (by simp) ?_ ?_
        · rintro i n hi hI hw ihl
          obtain ⟨x, hx, hg, _⟩ := drop_get hi default
          have hxm := List.mem_of_getElem? hx
          have hS := ih (by omega) x (hs x hxm) (hps x hxm)
          have hb1 := hpos (i + 1) (by omega)
          have hnext : ((q.parts.take (i + 1)).map (scoreN fl rows d)).sum = n + scoreN fl rows d x := by rw [List.take_add_one, hx, List.map_append, List.sum_append, hI]; simp
          have hw2 : IntKind.i64.wrap ((n : Int) + ((scoreN fl rows d x : Nat) : Int)) = ((n + scoreN fl rows d x : Nat) : Int) := by rw [wrap_in (by omega) (by omega)]; omega
          simp only [go_sem, ↓reduceIte, Nat.reduceAdd, Nat.reduceSub, Nat.reduceEqDiff, Nat.reduceLT, Nat.reduceLeDiff, Nat.reduceMul, Int.reduceNeg, Int.reduceToNat, Int.reduceEq, Int.reduceLT, Int.reduceLE, reduceCtorEq, hi, hw, hg, hx, hS, hw2]
          exact ihl _ hnext.symm
        · rintro n hI
          rw [List.take_length] at hI
          simp only [go_sem, ↓reduceIte, Nat.reduceAdd, Nat.reduceSub, Nat.reduceEqDiff, Nat.reduceLT, Nat.reduceLeDiff, Nat.reduceMul, Int.reduceNeg, Int.reduceToNat, Int.reduceEq, Int.reduceLT, Int.reduceLE, reduceCtorEq]
          rw [hI]
    · have c7 : ¬ q.kind = 7 := fun e => k78 (.inl e)
      have c8 : ¬ q.kind = 8 := fun e => k78 (.inr e)
      rw [if_neg k78] at hfin
      by_cases k234 : q.kind = 2 ∨ q.kind = 3 ∨ q.kind = 4
      case neg =>
        rw [if_neg k234] at hfin
        have c2 : ¬ q.kind = 2 := fun e => k234 (.inl e)
        have c3 : ¬ q.kind = 3 := fun e => k234 (.inr (.inl e))
        have c4 : ¬ q.kind = 4 := fun e => k234 (.inr (.inr e))
        refine go21 rfl ?_; simp only [go_sem, ↓reduceIte, Nat.reduceAdd, Nat.reduceSub, Nat.reduceEqDiff, Nat.reduceLT, Nat.reduceLeDiff, Nat.reduceMul, Int.reduceNeg, Int.reduceToNat, Int.reduceEq, Int.reduceLT, Int.reduceLE, reduceCtorEq, Try.f21, c2, c3, c4, c7, c8]
        rw [hfin]; rfl
      rw [if_pos k234] at hfin
      rw [hfin]
      have hF := l6Find_R fl rows ents nx q hfl hr hq (dp + 1) hok
      have htx := textOk_Q hok k234
      have hlen := findS_len fl rows q
      have hwl := weightN_le hd q
      have hls := leafScore_le hd hrl q
      by_cases hz : (findS fl rows q).length = 0
      · have hz' : ((findS fl rows q).length : Int) = 0 := by omega
        have e : leafScore fl rows d q = 0 := by rw [leafScore, if_pos hz]
        rw [e]
        by_cases c2 : q.kind = 2
        · refine go21 rfl ?_; simp only [go_sem, ↓reduceIte, Nat.reduceAdd, Nat.reduceSub, Nat.reduceEqDiff, Nat.reduceLT, Nat.reduceLeDiff, Nat.reduceMul, Int.reduceNeg, Int.reduceToNat, Int.reduceEq, Int.reduceLT, Int.reduceLE, reduceCtorEq, Try.f21, c7, c8, eq_true c2, hF, hz']
        by_cases c3 : q.kind = 3
        · refine go21 rfl ?_; simp only [go_sem, ↓reduceIte, Nat.reduceAdd, Nat.reduceSub, Nat.reduceEqDiff, Nat.reduceLT, Nat.reduceLeDiff, Nat.reduceMul, Int.reduceNeg, Int.reduceToNat, Int.reduceEq, Int.reduceLT, Int.reduceLE, reduceCtorEq, Try.f21, c7, c8, c2, eq_true c3, hF, hz']
        have c4 : q.kind = 4 := by omega
        refine go21 rfl ?_; simp only [go_sem, ↓reduceIte, Nat.reduceAdd, Nat.reduceSub, Nat.reduceEqDiff, Nat.reduceLT, Nat.reduceLeDiff, Nat.reduceMul, Int.reduceNeg, Int.reduceToNat, Int.reduceEq, Int.reduceLT, Int.reduceLE, reduceCtorEq, Try.f21, c7, c8, c2, c3, eq_true c4, hF, hz']
      · have hz' : ¬ ((findS fl rows q).length : Int) = 0 := by omega
        have e : leafScore fl rows d q = weightN fl d q * (100 * rows.length / (findS fl rows q).length) := by rw [leafScore, if_neg hz]
        have e1 : IntKind.i64.wrap (100 * (rows.length : Int)) = ((100 * rows.length : Nat) : Int) := by rw [wrap_in (by omega) (by omega)]; omega
        have e2 : ((100 * rows.length : Nat) : Int).tdiv ((findS fl rows q).length : Int) = ((100 * rows.length / (findS fl rows q).length : Nat) : Int) := (Int.ofNat_tdiv _ _).symm
        have hdl : 100 * rows.length / (findS fl rows q).length ≤ 800 := Nat.le_trans (Nat.div_le_self _ _) (by omega)
        have e3 : IntKind.i64.wrap ((100 * rows.length / (findS fl rows q).length : Nat) : Int) = ((100 * rows.length / (findS fl rows q).length : Nat) : Int) := wrap_nat (Nat.le_trans hdl (by omega))
        have hW := l7Weighed_R fl d q hfl1 hd ht htx
        have e4 : ((weightN fl d q : Nat) : Int) * ((100 * rows.length / (findS fl rows q).length : Nat) : Int) = ((leafScore fl rows d q : Nat) : Int) := by rw [e, Int.natCast_mul]
        have e5 : IntKind.i64.wrap ((leafScore fl rows d q : Nat) : Int) = ((leafScore fl rows d q : Nat) : Int) := wrap_nat (Nat.le_trans hls (by omega))
        by_cases c2 : q.kind = 2
        · refine go21 rfl ?_; simp only [go_sem, ↓reduceIte, Nat.reduceAdd, Nat.reduceSub, Nat.reduceEqDiff, Nat.reduceLT, Nat.reduceLeDiff, Nat.reduceMul, Int.reduceNeg, Int.reduceToNat, Int.reduceEq, Int.reduceLT, Int.reduceLE, reduceCtorEq, Try.f21, c7, c8, eq_true c2, hF, hz', hz, hW, e1, e2, e3, e4, e5]
        by_cases c3 : q.kind = 3
        · refine go21 rfl ?_; simp only [go_sem, ↓reduceIte, Nat.reduceAdd, Nat.reduceSub, Nat.reduceEqDiff, Nat.reduceLT, Nat.reduceLeDiff, Nat.reduceMul, Int.reduceNeg, Int.reduceToNat, Int.reduceEq, Int.reduceLT, Int.reduceLE, reduceCtorEq, Try.f21, c7, c8, c2, eq_true c3, hF, hz', hz, hW, e1, e2, e3, e4, e5]
        have c4 : q.kind = 4 := by omega
        refine go21 rfl ?_; simp only [go_sem, ↓reduceIte, Nat.reduceAdd, Nat.reduceSub, Nat.reduceEqDiff, Nat.reduceLT, Nat.reduceLeDiff, Nat.reduceMul, Int.reduceNeg, Int.reduceToNat, Int.reduceEq, Int.reduceLT, Int.reduceLE, reduceCtorEq, Try.f21, c7, c8, c2, c3, eq_true c4, hF, hz', hz, hW, e1, e2, e3, e4, e5]
/-! ### Hits -/
structure Hit where
  doc : Int
  key : Str
  score : Int
  deriving Inhabited, DecidableEq
def Hit.pv (h : Hit) : PV := .agg [.int .i64 h.doc, .str h.key, .int .i64 h.score]
instance : Enc Hit.pv 3 := ⟨fun _ => by simp only [Hit.pv, PV.free, PV.freeL, and_self], fun _ => by simp only [Hit.pv, PV.okr, PV.okrL, and_self], fun _ => rfl⟩
instance : EncF Hit.pv := ⟨fun _ => rfl⟩
instance : EncN Hit.pv := ⟨fun _ => by simp only [Hit.pv, PV.noR, PV.noRL, and_self]⟩
instance : EncS Hit.pv Hit.pv := ⟨fun _ => rfl⟩
@[go_sem] theorem Hit.cells (h : Hit) : h.pv.cells = [.int .i64 h.doc, .str h.key, .int .i64 h.score] := rfl
@[go_sem] theorem Hit.mid (l m : List Hit) (a : Int) (k : Str) (s : Int) : l.map Hit.pv ++ .agg [.int .i64 a, .str k, .int .i64 s] :: m.map Hit.pv = (l ++ Hit.mk a k s :: m).map Hit.pv := by simp [Hit.pv]
def ahead (h x : Hit) : Bool := decide (h.score < x.score) || (decide (x.score = h.score) && Op.bytesLess x.key h.key)
def putK (l : List Hit) (h : Hit) : Nat := (l.takeWhile (ahead h)).length
def putHit (l : List Hit) (h : Hit) : List Hit := l.take (putK l h) ++ h :: l.drop (putK l h)
theorem putHit_len (l : List Hit) (h : Hit) : (putHit l h).length = l.length + 1 := by
  have := (List.takeWhile_sublist (l := l) (ahead h)).length_le
  simp only [putHit, putK, List.length_append, List.length_take, List.length_cons, List.length_drop]; omega
@[go_sem] theorem l7Put_R (l : List Hit) (h : Hit) (hl : l.length ≤ 1099511627776) : R S0 20 [.sl (l.map Hit.pv), .agg [.int .i64 h.doc, .str h.key, .int .i64 h.score]] = some ⟨[none, none], .slo 3 ((putHit l h).map Hit.pv)⟩ := by
  have fin : ∀ i, putK l h = i → i ≤ l.length → (l.take i ++ Hit.mk h.doc h.key h.score :: l.drop i).map Hit.pv = (putHit l h).map Hit.pv := fun i hi _ => by rw [putHit, hi]
  refine go20 rfl ?_; simp only [go_sem, ↓reduceIte, Nat.reduceAdd, Nat.reduceSub, Nat.reduceEqDiff, Nat.reduceLT, Nat.reduceLeDiff, Nat.reduceMul, Int.reduceNeg, Int.reduceToNat, Int.reduceEq, Int.reduceLT, Int.reduceLE, reduceCtorEq, Try.f20]
  refine ends_for l.length (by omega) (fun i _ => mkSt [(0, .sl (l.map Hit.pv)), (3, .addr 0 0 0), (5, .int .i64 i)] [.pto [.int .i64 h.doc, .str h.key, .int .i64 h.score]]) (fun i _ => ∀ y ∈ l.take i, ahead h y = true) 0 () (by omega) (by simp) ?_ ?_
  · rintro i _ hi hI hw ih
    obtain ⟨x, hx, hg, hd⟩ := drop_get hi default
    have k1 : cut l 0 (i : Int) = l.take i := cut_take l i
    have k2 : cut l (i : Int) (l.length : Int) = l.drop i := cut_drop l i
    have k3 : (0 : Int) ≤ (i : Int) := by omega
    have k4 : (i : Int) ≤ (l.length : Int) := by omega
    have done : ahead h x = false → (l.take i ++ Hit.mk h.doc h.key h.score :: l.drop i).map Hit.pv = (putHit l h).map Hit.pv := fun hx' => fin i (tw_at hI hx hx') (by omega)
    have b1 : (l.take i).length ≤ 1099511627776 := by simp; omega
    have b2 : (l.drop i).length ≤ 1099511627776 := by simp; omega
    by_cases h1 : h.score < x.score
    · have hL : ahead h x = true := by simp [ahead, h1]
      simp only [go_sem, ↓reduceIte, Nat.reduceAdd, Nat.reduceSub, Nat.reduceEqDiff, Nat.reduceLT, Nat.reduceLeDiff, Nat.reduceMul, Int.reduceNeg, Int.reduceToNat, Int.reduceEq, Int.reduceLT, Int.reduceLE, reduceCtorEq, hi, hw, hg, hx, h1]
      exact ih () (take_stepT hI hx hL)
    · by_cases h2 : x.score = h.score
      · have h2t := eq_true h2
        cases h3 : Op.bytesLess x.key h.key with
        | true =>
          have hL : ahead h x = true := by simp [ahead, h2, h3]
          simp only [go_sem, ↓reduceIte, Nat.reduceAdd, Nat.reduceSub, Nat.reduceEqDiff, Nat.reduceLT, Nat.reduceLeDiff, Nat.reduceMul, Int.reduceNeg, Int.reduceToNat, Int.reduceEq, Int.reduceLT, Int.reduceLE, reduceCtorEq, hi, hw, hg, hx, h1, h2t, h3]
          exact ih () (take_stepT hI hx hL)
        | false =>
          have hL : ahead h x = false := by simp [ahead, h1, h3]
          have e := done hL
          simp only [go_sem, ↓reduceIte, Nat.reduceAdd, Nat.reduceSub, Nat.reduceEqDiff, Nat.reduceLT, Nat.reduceLeDiff, Nat.reduceMul, Int.reduceNeg, Int.reduceToNat, Int.reduceEq, Int.reduceLT, Int.reduceLE, reduceCtorEq, hi, hw, hg, hx, h1, h2t, h3, k1, k2, k3, k4]
          exact ⟨by omega, by omega, by omega, by decide +kernel, e⟩
      · have hL : ahead h x = false := by simp [ahead, h1, h2]
        have e := done hL
        simp only [go_sem, ↓reduceIte, Nat.reduceAdd, Nat.reduceSub, Nat.reduceEqDiff, Nat.reduceLT, Nat.reduceLeDiff, Nat.reduceMul, Int.reduceNeg, Int.reduceToNat, Int.reduceEq, Int.reduceLT, Int.reduceLE, reduceCtorEq, hi, hw, hg, hx, h1, h2, k1, k2, k3, k4]
        exact ⟨by omega, by omega, by omega, by decide +kernel, e⟩
  · rintro _ hI
    rw [List.take_length] at hI
    have e := fin l.length (tw_end hI) (Nat.le_refl _)
    have k1 : cut l 0 (l.length : Int) = l.take l.length := cut_take l l.length
    have k2 : cut l (l.length : Int) (l.length : Int) = l.drop l.length := cut_drop l l.length
    have b1 : (l.take l.length).length ≤ 1099511627776 := by simp; omega
    have b2 : (l.drop l.length).length ≤ 1099511627776 := by simp
    simp only [go_sem, ↓reduceIte, Nat.reduceAdd, Nat.reduceSub, Nat.reduceEqDiff, Nat.reduceLT, Nat.reduceLeDiff, Nat.reduceMul, Int.reduceNeg, Int.reduceToNat, Int.reduceEq, Int.reduceLT, Int.reduceLE, reduceCtorEq, k1, k2]
    exact ⟨by omega, by omega, by omega, by decide +kernel, e⟩
/-! ### The ranking -/
def rankTo (fl : List Field) (rows : List DRow) (q : Query) : Nat → List Hit
  | 0 => []
  | k + 1 => if meetsM fl (rows.getD k default).doc q = true then putHit (rankTo fl rows q k) ⟨(rows.getD k default).id, (rows.getD k default).doc.key, scoreN fl rows (rows.getD k default).doc q⟩ else rankTo fl rows q k
def askOk (fl : List Field) (rows : List DRow) (ents : List Entry) (nx : Int) (q : Query) : Bool := indexOkS fl rows ents nx && (fieldsOk fl && okQ 4 q && fitsI fl q)
def rankS (fl : List Field) (rows : List DRow) (ents : List Entry) (nx : Int) (q : Query) : List Hit := if askOk fl rows ents nx q = true then rankTo fl rows q rows.length else []
theorem rankTo_len (fl : List Field) (rows : List DRow) (q : Query) : ∀ k, (rankTo fl rows q k).length ≤ k
  | 0 => Nat.le_refl _
  | k + 1 => by
    have := rankTo_len fl rows q k
    rw [rankTo]
    split
    · rw [putHit_len]; omega
    · omega
theorem indexOk_rows {fl : List Field} {rows : List DRow} {ents : List Entry} {nx : Int} (h : indexOkS fl rows ents nx = true) : RowsD fl rows := by
  simp only [indexOkS, Bool.and_eq_true, decide_eq_true_eq] at h
  refine ⟨h.2.1.1.2, fun r hr => ?_⟩
  obtain ⟨i, hi, rfl⟩ := List.getElem_of_mem hr
  have := rowsOkTo_all.1 h.1 i hi
  simp only [rowOkS, Bool.and_eq_true, List.getD_eq_getElem?_getD, List.getElem?_eq_getElem hi, Option.getD_some] at this
  exact this.1.1.1
theorem rankS_len (fl : List Field) (rows : List DRow) (ents : List Entry) (nx : Int) (q : Query) : (rankS fl rows ents nx q).length ≤ 8 := by
  unfold rankS
  split
  · rename_i h
    simp only [askOk, Bool.and_eq_true] at h
    exact Nat.le_trans (rankTo_len _ _ _ _) (indexOk_rows h.1).1
  · simp
@[go_sem] theorem specRank_R (fl : List Field) (rows : List DRow) (ents : List Entry) (nx : Int) (q : Query) (hfl : FSm fl) (hr : RowsM rows) (he : EntSm ents) (hn : -9223372036854775807 ≤ nx ∧ nx ≤ 9223372036854775807) (hq : q.Sm) : R S0 11 [.agg [.sl (fl.map Field.pv), .sl (rows.map DRow.pvF), .sl (ents.map Entry.pvF), .int .i64 nx], .agg [.int .i64 q.kind, .str q.field, .str q.text, .int .i64 q.low, .int .i64 q.high, .sl (q.parts.map pv)]] = some ⟨[none, none], .slo 3 ((rankS fl rows ents nx q).map Hit.pv)⟩ := by
  cases c1 : indexOkS fl rows ents nx with
  | false =>
    have e : rankS fl rows ents nx q = [] := by rw [rankS, if_neg]; simp [askOk, c1]
    rw [e]
    refine go11 rfl ?_; simp only [go_sem, ↓reduceIte, Nat.reduceAdd, Nat.reduceSub, Nat.reduceEqDiff, Nat.reduceLT, Nat.reduceLeDiff, Nat.reduceMul, Int.reduceNeg, Int.reduceToNat, Int.reduceEq, Int.reduceLT, Int.reduceLE, reduceCtorEq, Try.f11, hfl, hr, he, hn, c1]
  | true =>
    cases c2 : (fieldsOk fl && okQ 4 q && fitsI fl q) with
    | false =>
      have e : rankS fl rows ents nx q = [] := by rw [rankS, if_neg]; rw [askOk, c2]; simp
      rw [e]
      refine go11 rfl ?_; simp only [go_sem, ↓reduceIte, Nat.reduceAdd, Nat.reduceSub, Nat.reduceEqDiff, Nat.reduceLT, Nat.reduceLeDiff, Nat.reduceMul, Int.reduceNeg, Int.reduceToNat, Int.reduceEq, Int.reduceLT, Int.reduceLE, reduceCtorEq, Try.f11, hfl, hr, he, hn, c1, hq, c2]
    | true =>
      have e : rankS fl rows ents nx q = rankTo fl rows q rows.length := by rw [rankS, if_pos]; rw [askOk, c1, c2]; rfl
      rw [e]
      have hD := indexOk_rows c1
      obtain ⟨hl, hds⟩ := id hD
      have hok : okQ 4 q = true := by simp only [Bool.and_eq_true] at c2; exact c2.1.2
      refine go11 rfl ?_; simp only [go_sem, ↓reduceIte, Nat.reduceAdd, Nat.reduceSub, Nat.reduceEqDiff, Nat.reduceLT, Nat.reduceLeDiff, Nat.reduceMul, Int.reduceNeg, Int.reduceToNat, Int.reduceEq, Int.reduceLT, Int.reduceLE, reduceCtorEq, Try.f11, hfl, hr, he, hn, c1, hq, c2]
      refine ends_for rows.length (by omega) (fun i _ => mkSt [(2, .addr 0 0 0), (3, .addr 1 0 0), (5, .own 2), (6, .int .i64 i)] [.pto [.sl (fl.map Field.pv), .sl (rows.map DRow.pvF), .sl (ents.map Entry.pvF), .int .i64 nx], .pto [.int .i64 q.kind, .str q.field, .str q.text, .int .i64 q.low, .int .i64 q.high, .sl (q.parts.map pv)], .slo 3 ((rankTo fl rows q i).map Hit.pv)]) (fun _ _ => True) 0 () (by omega) trivial ?_ ?_
      · rintro i _ hi _ hw ih
        obtain ⟨r, hx, hg, _⟩ := drop_get hi default
        have hd := hds r (List.mem_of_getElem? hx)
        have hsm := (docOk_st hd).sm (by omega)
        have hm := specMeets_R6 fl r.doc hfl hsm hd 4 q hq hok
        have hS := l7Score_R fl rows ents nx r.doc hfl hD hd 4 (by omega) q hq hok
        have hlen := rankTo_len fl rows q i
        have hlb : (rankTo fl rows q i).length ≤ 1099511627776 := by omega
        have ih' := ih () trivial
        cases c : meetsM fl r.doc q with
        | true =>
          have e : rankTo fl rows q (i + 1) = putHit (rankTo fl rows q i) ⟨r.id, r.doc.key, scoreN fl rows r.doc q⟩ := by rw [rankTo, hg, if_pos c]
          rw [c] at hm
          rw [e] at ih'
          have hP := l7Put_R (rankTo fl rows q i) ⟨r.id, r.doc.key, scoreN fl rows r.doc q⟩ hlb
          simp only at hP
          simp only [go_sem, ↓reduceIte, Nat.reduceAdd, Nat.reduceSub, Nat.reduceEqDiff, Nat.reduceLT, Nat.reduceLeDiff, Nat.reduceMul, Int.reduceNeg, Int.reduceToNat, Int.reduceEq, Int.reduceLT, Int.reduceLE, reduceCtorEq, hi, hw, hg, hx, hm, hS, hP]
          exact ⟨by decide +kernel, ih'⟩
        | false =>
          have e : rankTo fl rows q (i + 1) = rankTo fl rows q i := by rw [rankTo, hg, if_neg (by rw [c]; simp)]
          rw [c] at hm
          rw [e] at ih'
          simp only [go_sem, ↓reduceIte, Nat.reduceAdd, Nat.reduceSub, Nat.reduceEqDiff, Nat.reduceLT, Nat.reduceLeDiff, Nat.reduceMul, Int.reduceNeg, Int.reduceToNat, Int.reduceEq, Int.reduceLT, Int.reduceLE, reduceCtorEq, hi, hw, hg, hx, hm]
          exact ih'
      · rintro _ _
        simp only [go_sem, ↓reduceIte, Nat.reduceAdd, Nat.reduceSub, Nat.reduceEqDiff, Nat.reduceLT, Nat.reduceLeDiff, Nat.reduceMul, Int.reduceNeg, Int.reduceToNat, Int.reduceEq, Int.reduceLT, Int.reduceLE, reduceCtorEq]
/-! ### Drawn pages, pages -/
def DPPost (r : Ans) : Prop := ∃ hits : List Hit, ∃ a b : Int, r = ⟨[none], .tup [.slo 3 (hits.map Hit.pv), .int .i64 a, .int .i64 b]⟩ ∧ hits.length ≤ 8
theorem drawPage_ex (b : Str) : ∃ r, R S0 5 [.sl (b.map bytePV)] = some r ∧ DPPost r := by
  have hb : (b.take 2000).length ≤ 2000 := by simp; omega
  obtain ⟨r1, hr1, fl, rows, ents, nx, q, rfl, hfl, hrs, hes, hn1, hn2, hq⟩ := drawFind_ex b
  have hrm := hrs.sm (by omega) (by omega)
  have hn : -9223372036854775807 ≤ nx ∧ nx ≤ 9223372036854775807 := by omega
  have hln := rankS_len fl rows ents nx q
  have hO1 := one_R (b.take 2000) 0 [.int .i64 0, .int .i64 0, .int .i64 1, .int .i64 2, .int .i64 9, .int .i64 (-1), .int .i64 1001] rfl (by decide) (by omega) hb
  have hO2 := one_R (b.take 2000) 1 [.int .i64 0, .int .i64 1, .int .i64 2, .int .i64 9, .int .i64 (-1), .int .i64 1001] rfl (by decide) (by omega) hb
  rw [show ((0 : Nat) : Int) = 0 from rfl, show ((0 + 1 : Nat) : Int) = 1 from rfl] at hO1
  rw [show ((1 : Nat) : Int) = 1 from rfl] at hO2
  refine (fun ⟨r, h, hp⟩ => ⟨r, go5 rfl h, hp⟩ : (∃ r, Ends S0 _ _ r ∧ _) → _) ?_
  simp only [go_sem, ↓reduceIte, Nat.reduceAdd, Nat.reduceSub, Nat.reduceEqDiff, Nat.reduceLT, Nat.reduceLeDiff, Nat.reduceMul, Int.reduceNeg, Int.reduceToNat, Int.reduceEq, Int.reduceLT, Int.reduceLE, reduceCtorEq, Try.f5, hr1, hfl, hrm, hes, hn, hq, hO1, hO2, ex_if, ex_bool, ex_and, ex_eq]
  exact ⟨_, _, _, rfl, hln⟩
def pageS (l : List Hit) (a b : Int) : List Hit := if (inB a 0 1000 && inB b 0 1000) = true then (l.drop a.toNat).take b.toNat else []
@[go_sem] theorem implPage_R (l : List Hit) (a b : Int) (hl : l.length ≤ 1099511627776) : R S0 6 [.sl (l.map Hit.pv), .int .i64 a, .int .i64 b] = some ⟨[none, none, none], .sl ((pageS l a b).map Hit.pv)⟩ := by
  cases c1 : inB a 0 1000 with
  | false =>
    have e : pageS l a b = [] := by rw [pageS, if_neg]; rw [c1]; simp
    rw [e]
    refine go6 rfl ?_; simp only [go_sem, ↓reduceIte, Nat.reduceAdd, Nat.reduceSub, Nat.reduceEqDiff, Nat.reduceLT, Nat.reduceLeDiff, Nat.reduceMul, Int.reduceNeg, Int.reduceToNat, Int.reduceEq, Int.reduceLT, Int.reduceLE, reduceCtorEq, Try.f6, c1]
  | true =>
  cases c2 : inB b 0 1000 with
  | false =>
    have e : pageS l a b = [] := by rw [pageS, if_neg]; rw [c2]; simp
    rw [e]
    refine go6 rfl ?_; simp only [go_sem, ↓reduceIte, Nat.reduceAdd, Nat.reduceSub, Nat.reduceEqDiff, Nat.reduceLT, Nat.reduceLeDiff, Nat.reduceMul, Int.reduceNeg, Int.reduceToNat, Int.reduceEq, Int.reduceLT, Int.reduceLE, reduceCtorEq, Try.f6, c1, c2]
  | true =>
    have e : pageS l a b = (l.drop a.toNat).take b.toNat := by rw [pageS, if_pos]; rw [c1, c2]; rfl
    rw [e]
    simp only [inB, Bool.and_eq_true, decide_eq_true_eq] at c1 c2
    have c1' : inB a 0 1000 = true := by simp [inB, c1]
    have c2' : inB b 0 1000 = true := by simp [inB, c2]
    by_cases h1 : (l.length : Int) < a
    · have k1 : cut l (l.length : Int) (l.length : Int) = l.drop a.toNat := by rw [cut_drop, List.drop_of_length_le (Nat.le_refl _), List.drop_of_length_le (by omega)]
      have k0 : l.drop a.toNat = [] := List.drop_of_length_le (by omega)
      have k2 : ¬ (0 : Int) < 0 := by omega
      rw [k0] at k1
      rw [k0, List.take_nil]
      by_cases h2 : (0 : Int) < b
      · refine go6 rfl ?_; simp only [go_sem, ↓reduceIte, Nat.reduceAdd, Nat.reduceSub, Nat.reduceEqDiff, Nat.reduceLT, Nat.reduceLeDiff, Nat.reduceMul, Int.reduceNeg, Int.reduceToNat, Int.reduceEq, Int.reduceLT, Int.reduceLE, reduceCtorEq, Try.f6, c1', c2', h1, k1, h2]
        simp [cut, allLen, PV.freeL, PV.noRL, PV.stripL]
      · have h3 : b = 0 := by omega
        refine go6 rfl ?_; simp only [go_sem, ↓reduceIte, Nat.reduceAdd, Nat.reduceSub, Nat.reduceEqDiff, Nat.reduceLT, Nat.reduceLeDiff, Nat.reduceMul, Int.reduceNeg, Int.reduceToNat, Int.reduceEq, Int.reduceLT, Int.reduceLE, reduceCtorEq, Try.f6, c1', c2', h1, k1, h2, h3]
        simp [cut, allLen, PV.freeL, PV.noRL, PV.stripL]
    · have k0 : (0 : Int) ≤ a := c1.1
      have k1 : cut l a (l.length : Int) = l.drop a.toNat := by
        have := cut_drop l a.toNat
        rwa [Int.toNat_of_nonneg k0] at this
      have k2 : a ≤ (l.length : Int) := by omega
      have hrl : (l.drop a.toNat).length ≤ 1099511627776 := by simp; omega
      generalize hrest : l.drop a.toNat = rest at *
      by_cases h2 : (rest.length : Int) < b
      · have k3 : cut rest 0 (rest.length : Int) = rest := by rw [cut_take, List.take_length]
        have k4 : rest.take b.toNat = rest := List.take_of_length_le (by omega)
        have k5 : (0 : Int) ≤ (rest.length : Int) := by omega
        rw [k4]
        refine go6 rfl ?_; simp only [go_sem, ↓reduceIte, Nat.reduceAdd, Nat.reduceSub, Nat.reduceEqDiff, Nat.reduceLT, Nat.reduceLeDiff, Nat.reduceMul, Int.reduceNeg, Int.reduceToNat, Int.reduceEq, Int.reduceLT, Int.reduceLE, reduceCtorEq, Try.f6, c1', c2', h1, k0, k1, k2, h2, k3, k5]
        omega
      · have k3 : cut rest 0 b = rest.take b.toNat := by
          have := cut_take rest b.toNat
          rwa [Int.toNat_of_nonneg c2.1] at this
        have k4 := c2.1
        have k5 : b ≤ (rest.length : Int) := by omega
        have k6 : (rest.take b.toNat).length ≤ 1099511627776 := by simp; omega
        refine go6 rfl ?_; simp only [go_sem, ↓reduceIte, Nat.reduceAdd, Nat.reduceSub, Nat.reduceEqDiff, Nat.reduceLT, Nat.reduceLeDiff, Nat.reduceMul, Int.reduceNeg, Int.reduceToNat, Int.reduceEq, Int.reduceLT, Int.reduceLE, reduceCtorEq, Try.f6, c1', c2', h1, k0, k1, k2, h2, k3, k4, k5]
        omega
@[go_sem] theorem specPage_R (l : List Hit) (a b : Int) (hl : l.length ≤ 1099511627776) : R S0 8 [.sl (l.map Hit.pv), .int .i64 a, .int .i64 b] = some ⟨[none, none, none], .sl ((pageS l a b).map Hit.pv)⟩ := by
  cases c1 : inB a 0 1000 with
  | false =>
    have e : pageS l a b = [] := by rw [pageS, if_neg]; rw [c1]; simp
    rw [e]
    refine go8 rfl ?_; simp only [go_sem, ↓reduceIte, Nat.reduceAdd, Nat.reduceSub, Nat.reduceEqDiff, Nat.reduceLT, Nat.reduceLeDiff, Nat.reduceMul, Int.reduceNeg, Int.reduceToNat, Int.reduceEq, Int.reduceLT, Int.reduceLE, reduceCtorEq, Try.f8, c1]
  | true =>
  cases c2 : inB b 0 1000 with
  | false =>
    have e : pageS l a b = [] := by rw [pageS, if_neg]; rw [c2]; simp
    rw [e]
    refine go8 rfl ?_; simp only [go_sem, ↓reduceIte, Nat.reduceAdd, Nat.reduceSub, Nat.reduceEqDiff, Nat.reduceLT, Nat.reduceLeDiff, Nat.reduceMul, Int.reduceNeg, Int.reduceToNat, Int.reduceEq, Int.reduceLT, Int.reduceLE, reduceCtorEq, Try.f8, c1, c2]
  | true =>
    have e : pageS l a b = (l.drop a.toNat).take b.toNat := by rw [pageS, if_pos]; rw [c1, c2]; rfl
    rw [e]
    simp only [inB, Bool.and_eq_true, decide_eq_true_eq] at c1 c2
    have c1' : inB a 0 1000 = true := by simp [inB, c1]
    have c2' : inB b 0 1000 = true := by simp [inB, c2]
    by_cases h1 : (l.length : Int) < a
    · have k1 : cut l (l.length : Int) (l.length : Int) = l.drop a.toNat := by rw [cut_drop, List.drop_of_length_le (Nat.le_refl _), List.drop_of_length_le (by omega)]
      have k0 : l.drop a.toNat = [] := List.drop_of_length_le (by omega)
      rw [k0] at k1
      rw [k0, List.take_nil]
      have h2 : ¬ b < (0 : Int) := by omega
      refine go8 rfl ?_; simp only [go_sem, ↓reduceIte, Nat.reduceAdd, Nat.reduceSub, Nat.reduceEqDiff, Nat.reduceLT, Nat.reduceLeDiff, Nat.reduceMul, Int.reduceNeg, Int.reduceToNat, Int.reduceEq, Int.reduceLT, Int.reduceLE, reduceCtorEq, Try.f8, c1', c2', h1, k1, h2]
    · have k0 : (0 : Int) ≤ a := c1.1
      have k1 : cut l a (l.length : Int) = l.drop a.toNat := by
        have := cut_drop l a.toNat
        rwa [Int.toNat_of_nonneg k0] at this
      have k2 : a ≤ (l.length : Int) := by omega
      have hrl : (l.drop a.toNat).length ≤ 1099511627776 := by simp; omega
      generalize hrest : l.drop a.toNat = rest at *
      by_cases h2 : b < (rest.length : Int)
      · have k4 := c2.1
        have k5 : b ≤ (rest.length : Int) := by omega
        refine go8 rfl ?_; simp only [go_sem, ↓reduceIte, Nat.reduceAdd, Nat.reduceSub, Nat.reduceEqDiff, Nat.reduceLT, Nat.reduceLeDiff, Nat.reduceMul, Int.reduceNeg, Int.reduceToNat, Int.reduceEq, Int.reduceLT, Int.reduceLE, reduceCtorEq, Try.f8, c1', c2', h1, k0, k1, k2, h2, k4, k5]
        omega
      · have k4 : rest.take b.toNat = rest := List.take_of_length_le (by omega)
        rw [k4]
        refine go8 rfl ?_; simp only [go_sem, ↓reduceIte, Nat.reduceAdd, Nat.reduceSub, Nat.reduceEqDiff, Nat.reduceLT, Nat.reduceLeDiff, Nat.reduceMul, Int.reduceNeg, Int.reduceToNat, Int.reduceEq, Int.reduceLT, Int.reduceLE, reduceCtorEq, Try.f8, c1', c2', h1, k0, k1, k2, h2]
        omega
@[go_sem] theorem sdHits_R (a b : List Hit) (ha : a.length ≤ 1099511627776) (hb : b.length ≤ 1099511627776) : R S0 7 [.sl (a.map Hit.pv), .sl (b.map Hit.pv)] = some ⟨[none, none], .bool (decide (a = b))⟩ := by
  by_cases h : a.length = b.length
  · have h2 : (a.length : Int) = b.length := by omega
    refine go7 rfl ?_; simp only [go_sem, ↓reduceIte, Nat.reduceAdd, Nat.reduceSub, Nat.reduceEqDiff, Nat.reduceLT, Nat.reduceLeDiff, Nat.reduceMul, Int.reduceNeg, Int.reduceToNat, Int.reduceEq, Int.reduceLT, Int.reduceLE, reduceCtorEq, Try.f7, h2]
    refine ends_for b.length (by omega) (fun i _ => mkSt [(0, .sl (a.map Hit.pv)), (1, .sl (b.map Hit.pv)), (5, .int .i64 i)] []) (fun i _ => a.take i = b.take i) 0 () (by omega) rfl ?_ ?_
    · rintro i _ hi hI hw ih
      obtain ⟨y, hy, hg, _⟩ := drop_get hi default
      have hia : i < a.length := by omega
      obtain ⟨x, hx, hgx, _⟩ := drop_get hia default
      have h3 : (i : Int) < (a.length : Int) := by omega
      by_cases he : x = y
      · subst he
        simp only [go_sem, ↓reduceIte, Nat.reduceAdd, Nat.reduceSub, Nat.reduceEqDiff, Nat.reduceLT, Nat.reduceLeDiff, Nat.reduceMul, Int.reduceNeg, Int.reduceToNat, Int.reduceEq, Int.reduceLT, Int.reduceLE, reduceCtorEq, hi, h2, hw, hg, hia, hgx, hx, hy]
        exact ih () (by rw [List.take_add_one, List.take_add_one, hx, hy, hI])
      · have hne : ¬ a = b := by
          rintro rfl
          rw [hx] at hy
          exact he (Option.some.inj hy)
        have hd : (decide (x.doc = y.doc) && (decide (x.key = y.key) && decide (x.score = y.score))) = false := by
          cases x; cases y; simp at he ⊢; exact he
        simp only [go_sem, ↓reduceIte, Nat.reduceAdd, Nat.reduceSub, Nat.reduceEqDiff, Nat.reduceLT, Nat.reduceLeDiff, Nat.reduceMul, Int.reduceNeg, Int.reduceToNat, Int.reduceEq, Int.reduceLT, Int.reduceLE, reduceCtorEq, hi, h2, hw, hg, hia, hgx, hx, hy, hd]
        rw [decide_eq_false hne]
    · rintro _ hI
      rw [List.take_length, List.take_of_length_le (by omega)] at hI
      simp only [go_sem, ↓reduceIte, Nat.reduceAdd, Nat.reduceSub, Nat.reduceEqDiff, Nat.reduceLT, Nat.reduceLeDiff, Nat.reduceMul, Int.reduceNeg, Int.reduceToNat, Int.reduceEq, Int.reduceLT, Int.reduceLE, reduceCtorEq, h2]
      rw [decide_eq_true hI]
  · have h2 : ¬ (a.length : Int) = b.length := by omega
    have hne : ¬ a = b := fun e => h (by rw [e])
    refine go7 rfl ?_; simp only [go_sem, ↓reduceIte, Nat.reduceAdd, Nat.reduceSub, Nat.reduceEqDiff, Nat.reduceLT, Nat.reduceLeDiff, Nat.reduceMul, Int.reduceNeg, Int.reduceToNat, Int.reduceEq, Int.reduceLT, Int.reduceLE, reduceCtorEq, Try.f7, h2]
    rw [decide_eq_false hne]
end Go.Proofs.Ytjagjfjhinlgiaa.PVE
