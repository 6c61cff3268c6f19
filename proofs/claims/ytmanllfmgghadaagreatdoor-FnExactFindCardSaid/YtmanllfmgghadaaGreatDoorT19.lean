/- What a question asks of a document: the program's side. -/
import Derived.Test.YtmanllfmgghadaaGreatDoorT15
set_option linter.unusedVariables false
set_option linter.unusedSimpArgs false
set_option maxRecDepth 100000
namespace Go.Proofs.YtmanllfmgghadaaGreatDoor.PVE
open PV Query
def begM (p s : Str) : Bool := decide (p.length ≤ s.length) && decide (s.take p.length = p)
@[go_sem] theorem slitePrefix_R (s p : Str) : R S0 207 [.str s, .str p] = some ⟨[none, none], .bool (begM p s)⟩ := by
  have e1 : cut s 0 (p.length : Int) = s.take p.length := cut_take s p.length
  by_cases h : p.length ≤ s.length
  · have h2 : (p.length : Int) ≤ s.length := by omega
    have e : begM p s = decide (s.take p.length = p) := by rw [begM, decide_eq_true h, Bool.true_and]
    refine go207 rfl ?_; simp only [go_sem, ↓reduceIte, Nat.reduceAdd, Nat.reduceSub, Nat.reduceEqDiff, Nat.reduceLT, Nat.reduceLeDiff, Nat.reduceMul, Int.reduceNeg, Int.reduceToNat, Int.reduceEq, Int.reduceLT, Int.reduceLE, reduceCtorEq, Tryz.f207, h2, e1, e]
  · have h2 : ¬ (p.length : Int) ≤ s.length := by omega
    have e : begM p s = false := by rw [begM, decide_eq_false h, Bool.false_and]
    refine go207 rfl ?_; simp only [go_sem, ↓reduceIte, Nat.reduceAdd, Nat.reduceSub, Nat.reduceEqDiff, Nat.reduceLT, Nat.reduceLeDiff, Nat.reduceMul, Int.reduceNeg, Int.reduceToNat, Int.reduceEq, Int.reduceLT, Int.reduceLE, reduceCtorEq, Tryz.f207, h2, e]
@[go_sem] theorem hasPrefix_R (s p : Str) : R S0 160 [.str s, .str p] = some ⟨[none, none], .bool (begM p s)⟩ := by
  refine go160 rfl ?_; simp only [go_sem, ↓reduceIte, Nat.reduceAdd, Nat.reduceSub, Nat.reduceEqDiff, Nat.reduceLT, Nat.reduceLeDiff, Nat.reduceMul, Int.reduceNeg, Int.reduceToNat, Int.reduceEq, Int.reduceLT, Int.reduceLE, reduceCtorEq, Tryz.f160]
@[go_sem] theorem equalS_R (a b : List Str) (ha : a.length ≤ 1099511627776) (hb : b.length ≤ 1099511627776) : R S0 267 [.sl (a.map .str), .sl (b.map .str)] = some ⟨[none, none], .bool (decide (a = b))⟩ := by
  by_cases h : a.length = b.length
  · have h2 : (a.length : Int) = b.length := by omega
    refine go267 rfl ?_; simp only [go_sem, ↓reduceIte, Nat.reduceAdd, Nat.reduceSub, Nat.reduceEqDiff, Nat.reduceLT, Nat.reduceLeDiff, Nat.reduceMul, Int.reduceNeg, Int.reduceToNat, Int.reduceEq, Int.reduceLT, Int.reduceLE, reduceCtorEq, Tryz.f267, h2]
    refine ends_for b.length (by omega) (fun i _ => mkSt [(0, .sl (a.map .str)), (1, .sl (b.map .str)), (12, .int .i64 b.length), (13, .int .i64 i)] []) (fun i _ => a.take i = b.take i) 0 () (by omega) rfl ?_ ?_
    · rintro i _ hi hI hw ih
      obtain ⟨y, hy, hg, _⟩ := drop_get hi default
      have hia : i < a.length := by omega
      obtain ⟨x, hx, hgx, _⟩ := drop_get hia default
      by_cases he : x = y
      · subst he
        simp only [go_sem, ↓reduceIte, Nat.reduceAdd, Nat.reduceSub, Nat.reduceEqDiff, Nat.reduceLT, Nat.reduceLeDiff, Nat.reduceMul, Int.reduceNeg, Int.reduceToNat, Int.reduceEq, Int.reduceLT, Int.reduceLE, reduceCtorEq, hi, hw, hg, hia, hgx]
        exact ih () (by rw [List.take_add_one, List.take_add_one, hx, hy, hI])
      · have hne : ¬ a = b := by
          rintro rfl
          rw [hx] at hy
          exact he (Option.some.inj hy)
        simp only [go_sem, ↓reduceIte, Nat.reduceAdd, Nat.reduceSub, Nat.reduceEqDiff, Nat.reduceLT, Nat.reduceLeDiff, Nat.reduceMul, Int.reduceNeg, Int.reduceToNat, Int.reduceEq, Int.reduceLT, Int.reduceLE, reduceCtorEq, hi, hw, hg, hia, hgx, he]
        rw [decide_eq_false hne]
    · rintro _ hI
      rw [List.take_length, List.take_of_length_le (by omega)] at hI
      simp only [go_sem, ↓reduceIte, Nat.reduceAdd, Nat.reduceSub, Nat.reduceEqDiff, Nat.reduceLT, Nat.reduceLeDiff, Nat.reduceMul, Int.reduceNeg, Int.reduceToNat, Int.reduceEq, Int.reduceLT, Int.reduceLE, reduceCtorEq]
      rw [decide_eq_true hI]
  · have h2 : ¬ (a.length : Int) = b.length := by omega
    have hne : ¬ a = b := fun e => h (by rw [e])
    refine go267 rfl ?_; simp only [go_sem, ↓reduceIte, Nat.reduceAdd, Nat.reduceSub, Nat.reduceEqDiff, Nat.reduceLT, Nat.reduceLeDiff, Nat.reduceMul, Int.reduceNeg, Int.reduceToNat, Int.reduceEq, Int.reduceLT, Int.reduceLE, reduceCtorEq, Tryz.f267, h2]
    rw [decide_eq_false hne]
def runAt (all want : List Str) (i : Nat) : Bool := decide ((all.drop i).take want.length = want)
def cntTo (f : Nat → Bool) : Nat → Nat
  | 0 => 0
  | n + 1 => cntTo f n + if f n = true then 1 else 0
theorem cntTo_le (f : Nat → Bool) : ∀ n, cntTo f n ≤ n
  | 0 => Nat.le_refl _
  | n + 1 => by
    have := cntTo_le f n
    rw [cntTo]
    split <;> omega
theorem cntTo_pos {f : Nat → Bool} : ∀ {n : Nat}, 0 < cntTo f n ↔ ∃ i, i < n ∧ f i = true
  | 0 => by simp [cntTo]
  | n + 1 => by
    rw [cntTo]
    constructor
    · intro h
      by_cases hf : f n = true
      · exact ⟨n, by omega, hf⟩
      · rw [if_neg hf] at h
        obtain ⟨i, hi, hfi⟩ := cntTo_pos.1 (show 0 < cntTo f n by omega)
        exact ⟨i, by omega, hfi⟩
    · rintro ⟨i, hi, hfi⟩
      by_cases hin : i = n
      · subst hin; rw [if_pos hfi]; omega
      · have := cntTo_pos.2 ⟨i, (by omega : i < n), hfi⟩
        omega
def timesN (q : Query) (s : Str) : Nat :=
  if q.kind = 4 then (terms s).countP (fun t => decide (t ≠ []) && begM q.text t)
  else cntTo (runAt (terms s) (terms q.text)) ((terms s).length + 1 - (terms q.text).length)
theorem timesN_le (q : Query) (s : Str) : timesN q s ≤ s.length + 1 := by
  have h := words_len2 s
  unfold timesN
  split
  · have := List.countP_le_length (l := terms s) (p := fun t => decide (t ≠ []) && begM q.text t)
    omega
  · have := cntTo_le (runAt (terms s) (terms q.text)) ((terms s).length + 1 - (terms q.text).length)
    omega
@[go_sem] theorem times_R (q : Query) (s : Str) (ht : q.text.length ≤ 1099511627776) (hs : s.length ≤ 1099511627776) : R S0 234 [.agg [.int .i64 q.kind, .str q.field, .str q.text, .int .i64 q.low, .int .i64 q.high, .sl (q.parts.map pv)], .str s] = some ⟨[none, none], .int .i64 (timesN q s)⟩ := by
  have hl1 := words_len2 s
  have hl2 := words_len2 q.text
  by_cases hk : q.kind = 4
  · refine go234 rfl ?_; simp only [go_sem, ↓reduceIte, Nat.reduceAdd, Nat.reduceSub, Nat.reduceEqDiff, Nat.reduceLT, Nat.reduceLeDiff, Nat.reduceMul, Int.reduceNeg, Int.reduceToNat, Int.reduceEq, Int.reduceLT, Int.reduceLE, reduceCtorEq, Tryz.f234, hs, ht, hk]
    refine ends_for (terms s).length (by omega) (fun i (n : Nat) => mkSt [(2, .addr 0 0 0), (6, .int .i64 n), (16, .own 1), (17, .int .i64 (terms s).length), (18, .int .i64 i)] [.pto [.int .i64 4, .str q.field, .str q.text, .int .i64 q.low, .int .i64 q.high, .sl (q.parts.map pv)], .slo 1 ((terms s).map .str)]) (fun i n => n = ((terms s).take i).countP (fun t => decide (t ≠ []) && begM q.text t)) 0 0 (by omega) (by simp) ?_ ?_
    · rintro i n hi hI hw ih
      obtain ⟨y, hy, hg, _⟩ := drop_get hi default
      have hc := List.countP_le_length (l := (terms s).take i) (p := fun t => decide (t ≠ []) && begM q.text t)
      simp only [List.length_take] at hc
      have hw2 : IntKind.i64.wrap ((n : Int) + 1) = ((n + 1 : Nat) : Int) := by rw [wrap_in (by omega) (by omega)]; omega
      have htk : (terms s).take (i + 1) = (terms s).take i ++ [y] := by rw [List.take_add_one, hy]; rfl
      by_cases h0 : y = []
      · simp only [go_sem, ↓reduceIte, Nat.reduceAdd, Nat.reduceSub, Nat.reduceEqDiff, Nat.reduceLT, Nat.reduceLeDiff, Nat.reduceMul, Int.reduceNeg, Int.reduceToNat, Int.reduceEq, Int.reduceLT, Int.reduceLE, reduceCtorEq, hi, hw, hg, hy, h0]
        refine ih _ ?_
        rw [htk, List.countP_append, hI, h0]; simp
      · cases hb : begM q.text y with
        | true =>
          simp only [go_sem, ↓reduceIte, Nat.reduceAdd, Nat.reduceSub, Nat.reduceEqDiff, Nat.reduceLT, Nat.reduceLeDiff, Nat.reduceMul, Int.reduceNeg, Int.reduceToNat, Int.reduceEq, Int.reduceLT, Int.reduceLE, reduceCtorEq, hi, hw, hg, hy, h0, hb, hw2]
          refine ih _ ?_
          rw [htk, List.countP_append, hI]; simp [h0, hb]
        | false =>
          simp only [go_sem, ↓reduceIte, Nat.reduceAdd, Nat.reduceSub, Nat.reduceEqDiff, Nat.reduceLT, Nat.reduceLeDiff, Nat.reduceMul, Int.reduceNeg, Int.reduceToNat, Int.reduceEq, Int.reduceLT, Int.reduceLE, reduceCtorEq, hi, hw, hg, hy, h0, hb]
          refine ih _ ?_
          rw [htk, List.countP_append, hI]; simp [h0, hb]
    · rintro n hI
      rw [List.take_length] at hI
      simp only [go_sem, ↓reduceIte, Nat.reduceAdd, Nat.reduceSub, Nat.reduceEqDiff, Nat.reduceLT, Nat.reduceLeDiff, Nat.reduceMul, Int.reduceNeg, Int.reduceToNat, Int.reduceEq, Int.reduceLT, Int.reduceLE, reduceCtorEq]
      rw [timesN, if_pos hk, hI]
  · refine go234 rfl ?_; simp only [go_sem, ↓reduceIte, Nat.reduceAdd, Nat.reduceSub, Nat.reduceEqDiff, Nat.reduceLT, Nat.reduceLeDiff, Nat.reduceMul, Int.reduceNeg, Int.reduceToNat, Int.reduceEq, Int.reduceLT, Int.reduceLE, reduceCtorEq, Tryz.f234, hs, ht, hk]
    refine ends_for ((terms s).length + 1 - (terms q.text).length) (by omega) (fun i (n : Nat) => mkSt [(5, .own 0), (6, .int .i64 n), (9, .own 1), (10, .int .i64 i)] [.slo 1 ((terms s).map .str), .slo 1 ((terms q.text).map .str)]) (fun i n => n = cntTo (runAt (terms s) (terms q.text)) i) 0 0 (by omega) rfl ?_ ?_
    · rintro i n hi hI hw ih
      have hc := cntTo_le (runAt (terms s) (terms q.text)) i
      have hw1 : IntKind.i64.wrap ((i : Int) + ((terms q.text).length : Int)) = ((i + (terms q.text).length : Nat) : Int) := by rw [wrap_in (by omega) (by omega)]; omega
      have hw2 : IntKind.i64.wrap ((n : Int) + 1) = ((n + 1 : Nat) : Int) := by rw [wrap_in (by omega) (by omega)]; omega
      have hle : i + (terms q.text).length ≤ (terms s).length := by omega
      have hle2 : i ≤ i + (terms q.text).length := by omega
      have hsub : i + (terms q.text).length - i = (terms q.text).length := by omega
      have hln : ((terms s).drop i).length = (terms s).length - i := List.length_drop
      have hb1 : (((terms s).drop i).take (terms q.text).length).length ≤ 1099511627776 := by rw [List.length_take]; omega
      have hb2 : (terms q.text).length ≤ 1099511627776 := by omega
      cases hr : runAt (terms s) (terms q.text) i with
      | true =>
        have hr2 : ((terms s).drop i).take (terms q.text).length = terms q.text := by simpa [runAt] using hr
        simp only [go_sem, ↓reduceIte, Nat.reduceAdd, Nat.reduceSub, Nat.reduceEqDiff, Nat.reduceLT, Nat.reduceLeDiff, Nat.reduceMul, Int.reduceNeg, Int.reduceToNat, Int.reduceEq, Int.reduceLT, Int.reduceLE, reduceCtorEq, hi, hw, hw1, hw2, hle, hle2, hsub, hb2, hr2]
        exact ih _ (by rw [cntTo, if_pos hr, hI])
      | false =>
        have hr2 : ¬ ((terms s).drop i).take (terms q.text).length = terms q.text := by simpa [runAt] using hr
        simp only [go_sem, ↓reduceIte, Nat.reduceAdd, Nat.reduceSub, Nat.reduceEqDiff, Nat.reduceLT, Nat.reduceLeDiff, Nat.reduceMul, Int.reduceNeg, Int.reduceToNat, Int.reduceEq, Int.reduceLT, Int.reduceLE, reduceCtorEq, hi, hw, hw1, hle, hle2, hsub, hb1, hb2, hr2]
        exact ih _ (by rw [cntTo, if_neg (by rw [hr]; simp), hI, Nat.add_zero])
    · rintro n hI
      have hw1 : IntKind.i64.wrap ((((terms s).length + 1 - (terms q.text).length : Nat) : Int) + ((terms q.text).length : Int)) = (((terms s).length + 1 - (terms q.text).length + (terms q.text).length : Nat) : Int) := by rw [wrap_in (by omega) (by omega)]; omega
      have hle : ¬ ((terms s).length + 1 - (terms q.text).length + (terms q.text).length ≤ (terms s).length) := by omega
      simp only [go_sem, ↓reduceIte, Nat.reduceAdd, Nat.reduceSub, Nat.reduceEqDiff, Nat.reduceLT, Nat.reduceLeDiff, Nat.reduceMul, Int.reduceNeg, Int.reduceToNat, Int.reduceEq, Int.reduceLT, Int.reduceLE, reduceCtorEq, hw1, hle]
      rw [timesN, if_neg hk, hI]
def looksAt (l : List Field) (q : Query) (c : Cell) : Bool := decide ((fieldOf l c.name).kind = 1) && (decide (q.field = []) || decide (q.field = c.name))
def cellW (l : List Field) (q : Query) (c : Cell) : Nat := if looksAt l q c = true then timesN q c.text * (fieldOf l c.name).weight.toNat else 0
def weightN (l : List Field) (d : Doc) (q : Query) : Nat := (d.cells.map (cellW l q)).sum
theorem fieldOf_mem {l : List Field} {n : Str} (h : (fieldOf l n).kind ≠ 0) : fieldOf l n ∈ l := by
  rcases fieldIx_cases l n with ⟨_, _, h3⟩ | ⟨_, h2, _, h4⟩
  · rw [h3] at h; exact absurd rfl h
  · rw [← h4, List.getD_eq_getElem?_getD, List.getElem?_eq_getElem h2]
    exact List.getElem_mem _
theorem fieldsL_ok : ∀ (l : List Field) (ns : List Str), fieldsL ns l = true → ∀ f ∈ l, fieldOk f = true
  | [], _, _, f, hf => by simp at hf
  | x :: l, ns, h, f, hf => by
    simp only [fieldsL, Bool.and_eq_true] at h
    rcases List.mem_cons.1 hf with rfl | hf
    · exact h.1.1
    · exact fieldsL_ok l _ h.2 f hf
theorem weight_in {l : List Field} {n : Str} (h : fieldsOk l = true) (hk : (fieldOf l n).kind = 1) : 1 ≤ (fieldOf l n).weight ∧ (fieldOf l n).weight ≤ 9 := by
  simp only [fieldsOk, Bool.and_eq_true] at h
  have hf := fieldsL_ok l [] h.1 _ (fieldOf_mem (n := n) (by rw [hk]; decide))
  simp only [fieldOk, Bool.and_eq_true, hk, if_true] at hf
  simpa [inB] using hf.2
theorem docOk_parts {l : List Field} {d : Doc} (h : docOk l d = true) : fieldsOk l = true ∧ d.cells.length ≤ 4 ∧ ∀ c ∈ d.cells, c.text.length ≤ 60 ∧ c.name.length ≤ 8 := by
  simp only [docOk, Bool.and_eq_true, docForm, decide_eq_true_eq] at h
  obtain ⟨⟨h1, ⟨h2, h3⟩, h4⟩, h5⟩ := h
  refine ⟨h1, h4, fun c hc => ?_⟩
  obtain ⟨k1, k2⟩ := formL_text _ _ h2 c hc
  simp only [textOk, Bool.and_eq_true, decide_eq_true_eq] at k1
  exact ⟨k1.2, nameOk_len k2⟩
theorem cellW_le {l : List Field} {d : Doc} (h : docOk l d = true) (q : Query) {c : Cell} (hc : c ∈ d.cells) : cellW l q c ≤ 549 := by
  obtain ⟨h1, h2, h3⟩ := docOk_parts h
  unfold cellW
  split
  · rename_i hk
    simp only [looksAt, Bool.and_eq_true, decide_eq_true_eq] at hk
    obtain ⟨w1, w2⟩ := weight_in h1 hk.1
    have ht := timesN_le q c.text
    have := (h3 c hc).1
    have h9 : timesN q c.text * (fieldOf l c.name).weight.toNat ≤ 61 * 9 := Nat.mul_le_mul (by omega) (by omega)
    omega
  · omega
theorem sumW_le {l : List Field} {d : Doc} (h : docOk l d = true) (q : Query) : ∀ {cs : List Cell}, (∀ c ∈ cs, c ∈ d.cells) → (cs.map (cellW l q)).sum ≤ 549 * cs.length
  | [], _ => by simp
  | c :: cs, hc => by
    have h1 := cellW_le h q (hc c (by simp))
    have h2 := sumW_le h q (cs := cs) (fun x hx => hc x (by simp [hx]))
    simp only [List.map_cons, List.sum_cons, List.length_cons]
    omega
@[go_sem] theorem weight_R (l : List Field) (d : Doc) (q : Query) (hl : l.length ≤ 1099511627776) (hd : docOk l d = true) (ht : q.text.length ≤ 1099511627776) : R S0 192 [.agg [.int .i64 q.kind, .str q.field, .str q.text, .int .i64 q.low, .int .i64 q.high, .sl (q.parts.map pv)], .sl (l.map Field.pv), .agg [.str d.key, .sl (d.cells.map Cell.pv)]] = some ⟨[none, none, none], .int .i64 (weightN l d q)⟩ := by
  obtain ⟨hfo, hcl, hcs⟩ := docOk_parts hd
  refine go192 rfl ?_; simp only [go_sem, ↓reduceIte, Nat.reduceAdd, Nat.reduceSub, Nat.reduceEqDiff, Nat.reduceLT, Nat.reduceLeDiff, Nat.reduceMul, Int.reduceNeg, Int.reduceToNat, Int.reduceEq, Int.reduceLT, Int.reduceLE, reduceCtorEq, Tryz.f192]
  refine ends_for d.cells.length (by omega) (fun i (n : Nat) => mkSt [(1, .sl (l.map Field.pv)), (3, .addr 0 0 0), (7, .int .i64 n), (12, .sl (d.cells.map Cell.pv)), (13, .int .i64 d.cells.length), (14, .int .i64 i)] [.pto [.int .i64 q.kind, .str q.field, .str q.text, .int .i64 q.low, .int .i64 q.high, .sl (q.parts.map pv)]]) (fun i n => n = ((d.cells.take i).map (cellW l q)).sum) 0 0 (by omega) (by simp) ?_ ?_
  · rintro i n hi hI hw ih
    obtain ⟨c, hx, hg, hdr⟩ := drop_get hi default
    have hcm := List.mem_of_getElem? hx
    obtain ⟨hc1, hc2⟩ := hcs c hcm
    have hc1' : c.text.length ≤ 1099511627776 := by omega
    have hc2' : c.name.length ≤ 1099511627776 := by omega
    have htk : d.cells.take (i + 1) = d.cells.take i ++ [c] := by rw [List.take_add_one, hx]; rfl
    have hsum := sumW_le hd q (cs := d.cells.take i) (fun x hx => List.mem_of_mem_take hx)
    have hlt : (d.cells.take i).length ≤ 4 := by simp; omega
    have hcw := cellW_le hd q hcm
    have hnext : ((d.cells.take (i + 1)).map (cellW l q)).sum = n + cellW l q c := by rw [htk, List.map_append, List.sum_append, hI]; simp
    by_cases h1 : (fieldOf l c.name).kind = 1
    · obtain ⟨w1, w2⟩ := weight_in hfo h1
      by_cases h2 : q.field = [] ∨ q.field = c.name
      · have hla : looksAt l q c = true := by rcases h2 with h2 | h2 <;> simp [looksAt, h1, h2]
        have hcw2 : cellW l q c = timesN q c.text * (fieldOf l c.name).weight.toNat := by rw [cellW, if_pos hla]
        have e0 : ((timesN q c.text : Nat) : Int) * (fieldOf l c.name).weight = ((cellW l q c : Nat) : Int) := by
          rw [hcw2, Int.natCast_mul, Int.toNat_of_nonneg (by omega)]
        have e1 : IntKind.i64.wrap ((cellW l q c : Nat) : Int) = ((cellW l q c : Nat) : Int) := wrap_in (by omega) (by omega)
        have e2 : IntKind.i64.wrap ((n : Int) + ((cellW l q c : Nat) : Int)) = ((n + cellW l q c : Nat) : Int) := by rw [wrap_in (by omega) (by omega)]; omega
        by_cases h3 : q.field = []
        · have h3t := eq_true h3
          simp only [go_sem, ↓reduceIte, Nat.reduceAdd, Nat.reduceSub, Nat.reduceEqDiff, Nat.reduceLT, Nat.reduceLeDiff, Nat.reduceMul, Int.reduceNeg, Int.reduceToNat, Int.reduceEq, Int.reduceLT, Int.reduceLE, reduceCtorEq, hi, hw, hg, hl, hc1', hc2', ht, h1, h3t, e0, e1, e2]
          exact ih _ hnext.symm
        · have h4t := eq_true (h2.resolve_left h3)
          simp only [go_sem, ↓reduceIte, Nat.reduceAdd, Nat.reduceSub, Nat.reduceEqDiff, Nat.reduceLT, Nat.reduceLeDiff, Nat.reduceMul, Int.reduceNeg, Int.reduceToNat, Int.reduceEq, Int.reduceLT, Int.reduceLE, reduceCtorEq, hi, hw, hg, hl, hc1', hc2', ht, h1, h3, h4t, e0, e1, e2]
          exact ih _ hnext.symm
      · have h3 : ¬ q.field = [] := fun e => h2 (.inl e)
        have h4 : ¬ q.field = c.name := fun e => h2 (.inr e)
        have hla : cellW l q c = 0 := by rw [cellW, if_neg]; simp [looksAt, h3, h4]
        simp only [go_sem, ↓reduceIte, Nat.reduceAdd, Nat.reduceSub, Nat.reduceEqDiff, Nat.reduceLT, Nat.reduceLeDiff, Nat.reduceMul, Int.reduceNeg, Int.reduceToNat, Int.reduceEq, Int.reduceLT, Int.reduceLE, reduceCtorEq, hi, hw, hg, hl, hc1', hc2', ht, h1, h3, h4]
        exact ih _ (by rw [hnext, hla]; rfl)
    · have hla : cellW l q c = 0 := by rw [cellW, if_neg]; simp [looksAt, h1]
      simp only [go_sem, ↓reduceIte, Nat.reduceAdd, Nat.reduceSub, Nat.reduceEqDiff, Nat.reduceLT, Nat.reduceLeDiff, Nat.reduceMul, Int.reduceNeg, Int.reduceToNat, Int.reduceEq, Int.reduceLT, Int.reduceLE, reduceCtorEq, hi, hw, hg, hl, hc1', hc2', ht, h1]
      exact ih _ (by rw [hnext, hla]; rfl)
  · rintro n hI
    rw [List.take_length] at hI
    simp only [go_sem, ↓reduceIte, Nat.reduceAdd, Nat.reduceSub, Nat.reduceEqDiff, Nat.reduceLT, Nat.reduceLeDiff, Nat.reduceMul, Int.reduceNeg, Int.reduceToNat, Int.reduceEq, Int.reduceLT, Int.reduceLE, reduceCtorEq]
    rw [weightN, hI]
def leafM (l : List Field) (d : Doc) (q : Query) : Bool :=
  if q.kind = 1 then true
  else if q.kind = 5 then (numDoc l d q.field).2 && inB (numDoc l d q.field).1 q.low q.high
  else if q.kind = 6 then decide (q.text ∈ tagDoc l d q.field)
  else decide (0 < weightN l d q)
mutual
def meetsM (l : List Field) (d : Doc) : Query → Bool | .mk k f t lo hi p => if k = 7 then meetsAll l d p else if k = 8 then meetsAny l d p else if k = 9 then meetsNot l d p else leafM l d (.mk k f t lo hi p)
def meetsAll (l : List Field) (d : Doc) : List Query → Bool
  | [] => true
  | q :: qs => meetsM l d q && meetsAll l d qs
def meetsAny (l : List Field) (d : Doc) : List Query → Bool
  | [] => false
  | q :: qs => meetsM l d q || meetsAny l d qs
def meetsNot (l : List Field) (d : Doc) : List Query → Bool
  | [] => true
  | q :: _ => !meetsM l d q
end
theorem meetsAll_all (l : List Field) (d : Doc) : ∀ p, meetsAll l d p = p.all (meetsM l d)
  | [] => rfl
  | q :: p => by rw [meetsAll, List.all_cons, meetsAll_all l d p]
theorem meetsAny_any (l : List Field) (d : Doc) : ∀ p, meetsAny l d p = p.any (meetsM l d)
  | [] => rfl
  | q :: p => by rw [meetsAny, List.any_cons, meetsAny_any l d p]
theorem meetsM_eq (l : List Field) (d : Doc) : ∀ q : Query, meetsM l d q = if q.kind = 7 then q.parts.all (meetsM l d) else if q.kind = 8 then q.parts.any (meetsM l d) else if q.kind = 9 then meetsNot l d q.parts else leafM l d q
  | .mk k f t lo hi p => by rw [meetsM, meetsAll_all, meetsAny_any]; rfl
def firstIx (f : Query → Bool) (ps : List Query) : Int := if ps.any f = true then (ps.findIdx f : Nat) else -1
theorem firstIx_any (f : Query → Bool) (ps : List Query) : (decide (0 ≤ firstIx f ps)) = ps.any f := by
  unfold firstIx
  cases h : ps.any f with
  | true => simp
  | false => simp
theorem firstIx_at {f : Query → Bool} {ps : List Query} {i : Nat} {x : Query} (hI : ∀ y ∈ ps.take i, f y = false) (hx : ps[i]? = some x) (hf : f x = true) : firstIx f ps = i := by
  have := (look_at (p := f) hI hx hf).2
  rw [firstIx, if_pos this.2, this.1]
theorem firstIx_no {f : Query → Bool} {ps : List Query} (hI : ∀ y ∈ ps, f y = false) : firstIx f ps = -1 := by
  have := (look_no (p := f) hI).2
  rw [firstIx, if_neg (by rw [this]; simp)]
abbrev cap1 (l : List Field) (d : Doc) : List PV := [.pro [.sl (l.map Field.pv)], .pro [.str d.key, .sl (d.cells.map Cell.pv)]]
abbrev cap2 (l : List Field) (d : Doc) : List PV := [.pro [.fn 191 (cap1 l d)]]
theorem indexF1_R (l : List Field) (d : Doc) (f : Query → Bool) (ps : List Query) (hp : ps.length ≤ 1099511627776) (h : ∀ x ∈ ps, R S0 191 (.agg [.int .i64 x.kind, .str x.field, .str x.text, .int .i64 x.low, .int .i64 x.high, .sl (x.parts.map pv)] :: cap1 l d) = some ⟨[none, none, none], .bool (f x)⟩) : R S0 237 [.sl (ps.map pv), .fn 191 (cap1 l d)] = some ⟨[none, none], .int .i64 (firstIx f ps)⟩ := by
  refine go237 rfl ?_; simp only [go_sem, ↓reduceIte, Nat.reduceAdd, Nat.reduceSub, Nat.reduceEqDiff, Nat.reduceLT, Nat.reduceLeDiff, Nat.reduceMul, Int.reduceNeg, Int.reduceToNat, Int.reduceEq, Int.reduceLT, Int.reduceLE, reduceCtorEq, Tryz.f237]
  refine ends_for ps.length (by omega) (fun i _ => mkSt [(0, .sl (ps.map pv)), (1, .fn 191 (cap1 l d)), (7, .int .i64 ps.length), (8, .int .i64 i)] []) (fun i _ => ∀ y ∈ ps.take i, f y = false) 0 () (by omega) (by simp) ?_ ?_
  · rintro i _ hi hI hw ih
    obtain ⟨x, hx, hg, hd⟩ := drop_get hi default
    have h1 := h x (List.mem_of_getElem? hx)
    cases hf : f x with
    | true =>
      rw [hf] at h1
      have e := firstIx_at hI hx hf
      simp only [go_sem, ↓reduceIte, Nat.reduceAdd, Nat.reduceSub, Nat.reduceEqDiff, Nat.reduceLT, Nat.reduceLeDiff, Nat.reduceMul, Int.reduceNeg, Int.reduceToNat, Int.reduceEq, Int.reduceLT, Int.reduceLE, reduceCtorEq, hi, hw, hg, h1, e]
    | false =>
      rw [hf] at h1
      simp only [go_sem, ↓reduceIte, Nat.reduceAdd, Nat.reduceSub, Nat.reduceEqDiff, Nat.reduceLT, Nat.reduceLeDiff, Nat.reduceMul, Int.reduceNeg, Int.reduceToNat, Int.reduceEq, Int.reduceLT, Int.reduceLE, reduceCtorEq, hi, hw, hg, h1]
      exact ih () (take_step hI hx hf)
  · rintro _ hI
    rw [List.take_length] at hI
    have e := firstIx_no hI
    simp only [go_sem, ↓reduceIte, Nat.reduceAdd, Nat.reduceSub, Nat.reduceEqDiff, Nat.reduceLT, Nat.reduceLeDiff, Nat.reduceMul, Int.reduceNeg, Int.reduceToNat, Int.reduceEq, Int.reduceLT, Int.reduceLE, reduceCtorEq, e]
theorem containsF1_R (l : List Field) (d : Doc) (f : Query → Bool) (ps : List Query) (hp : ps.length ≤ 1099511627776) (h : ∀ x ∈ ps, R S0 191 (.agg [.int .i64 x.kind, .str x.field, .str x.text, .int .i64 x.low, .int .i64 x.high, .sl (x.parts.map pv)] :: cap1 l d) = some ⟨[none, none, none], .bool (f x)⟩) : R S0 195 [.sl (ps.map pv), .fn 191 (cap1 l d)] = some ⟨[none, none], .bool (ps.any f)⟩ := by
  have h1 := indexF1_R l d f ps hp h
  have h2 := firstIx_any f ps
  refine go195 rfl ?_; simp only [go_sem, ↓reduceIte, Nat.reduceAdd, Nat.reduceSub, Nat.reduceEqDiff, Nat.reduceLT, Nat.reduceLeDiff, Nat.reduceMul, Int.reduceNeg, Int.reduceToNat, Int.reduceEq, Int.reduceLT, Int.reduceLE, reduceCtorEq, Tryz.f195, h1, h2]
theorem indexF2_R (l : List Field) (d : Doc) (f : Query → Bool) (ps : List Query) (hp : ps.length ≤ 1099511627776) (h : ∀ x ∈ ps, R S0 196 (.agg [.int .i64 x.kind, .str x.field, .str x.text, .int .i64 x.low, .int .i64 x.high, .sl (x.parts.map pv)] :: cap2 l d) = some ⟨[none, none], .bool (f x)⟩) : R S0 237 [.sl (ps.map pv), .fn 196 (cap2 l d)] = some ⟨[none, none], .int .i64 (firstIx f ps)⟩ := by
  refine go237 rfl ?_; simp only [go_sem, ↓reduceIte, Nat.reduceAdd, Nat.reduceSub, Nat.reduceEqDiff, Nat.reduceLT, Nat.reduceLeDiff, Nat.reduceMul, Int.reduceNeg, Int.reduceToNat, Int.reduceEq, Int.reduceLT, Int.reduceLE, reduceCtorEq, Tryz.f237]
  refine ends_for ps.length (by omega) (fun i _ => mkSt [(0, .sl (ps.map pv)), (1, .fn 196 (cap2 l d)), (7, .int .i64 ps.length), (8, .int .i64 i)] []) (fun i _ => ∀ y ∈ ps.take i, f y = false) 0 () (by omega) (by simp) ?_ ?_
  · rintro i _ hi hI hw ih
    obtain ⟨x, hx, hg, hd⟩ := drop_get hi default
    have h1 := h x (List.mem_of_getElem? hx)
    cases hf : f x with
    | true =>
      rw [hf] at h1
      have e := firstIx_at hI hx hf
      simp only [go_sem, ↓reduceIte, Nat.reduceAdd, Nat.reduceSub, Nat.reduceEqDiff, Nat.reduceLT, Nat.reduceLeDiff, Nat.reduceMul, Int.reduceNeg, Int.reduceToNat, Int.reduceEq, Int.reduceLT, Int.reduceLE, reduceCtorEq, hi, hw, hg, h1, e]
    | false =>
      rw [hf] at h1
      simp only [go_sem, ↓reduceIte, Nat.reduceAdd, Nat.reduceSub, Nat.reduceEqDiff, Nat.reduceLT, Nat.reduceLeDiff, Nat.reduceMul, Int.reduceNeg, Int.reduceToNat, Int.reduceEq, Int.reduceLT, Int.reduceLE, reduceCtorEq, hi, hw, hg, h1]
      exact ih () (take_step hI hx hf)
  · rintro _ hI
    rw [List.take_length] at hI
    have e := firstIx_no hI
    simp only [go_sem, ↓reduceIte, Nat.reduceAdd, Nat.reduceSub, Nat.reduceEqDiff, Nat.reduceLT, Nat.reduceLeDiff, Nat.reduceMul, Int.reduceNeg, Int.reduceToNat, Int.reduceEq, Int.reduceLT, Int.reduceLE, reduceCtorEq, e]
theorem containsF2_R (l : List Field) (d : Doc) (f : Query → Bool) (ps : List Query) (hp : ps.length ≤ 1099511627776) (h : ∀ x ∈ ps, R S0 196 (.agg [.int .i64 x.kind, .str x.field, .str x.text, .int .i64 x.low, .int .i64 x.high, .sl (x.parts.map pv)] :: cap2 l d) = some ⟨[none, none], .bool (f x)⟩) : R S0 195 [.sl (ps.map pv), .fn 196 (cap2 l d)] = some ⟨[none, none], .bool (ps.any f)⟩ := by
  have h1 := indexF2_R l d f ps hp h
  have h2 := firstIx_any f ps
  refine go195 rfl ?_; simp only [go_sem, ↓reduceIte, Nat.reduceAdd, Nat.reduceSub, Nat.reduceEqDiff, Nat.reduceLT, Nat.reduceLeDiff, Nat.reduceMul, Int.reduceNeg, Int.reduceToNat, Int.reduceEq, Int.reduceLT, Int.reduceLE, reduceCtorEq, Tryz.f195, h1, h2]
theorem meets1_R (l : List Field) (d : Doc) (x : Query) (b : Bool) (h : R S0 138 [.agg [.int .i64 x.kind, .str x.field, .str x.text, .int .i64 x.low, .int .i64 x.high, .sl (x.parts.map pv)], .sl (l.map Field.pv), .agg [.str d.key, .sl (d.cells.map Cell.pv)]] = some ⟨[none, none, none], .bool b⟩) : R S0 191 (.agg [.int .i64 x.kind, .str x.field, .str x.text, .int .i64 x.low, .int .i64 x.high, .sl (x.parts.map pv)] :: cap1 l d) = some ⟨[none, none, none], .bool b⟩ := by
  refine go191 rfl ?_; simp only [go_sem, ↓reduceIte, Nat.reduceAdd, Nat.reduceSub, Nat.reduceEqDiff, Nat.reduceLT, Nat.reduceLeDiff, Nat.reduceMul, Int.reduceNeg, Int.reduceToNat, Int.reduceEq, Int.reduceLT, Int.reduceLE, reduceCtorEq, Tryz.f191, h]
theorem meets2_R (l : List Field) (d : Doc) (x : Query) (b : Bool) (h : R S0 191 (.agg [.int .i64 x.kind, .str x.field, .str x.text, .int .i64 x.low, .int .i64 x.high, .sl (x.parts.map pv)] :: cap1 l d) = some ⟨[none, none, none], .bool b⟩) : R S0 196 (.agg [.int .i64 x.kind, .str x.field, .str x.text, .int .i64 x.low, .int .i64 x.high, .sl (x.parts.map pv)] :: cap2 l d) = some ⟨[none, none], .bool (!b)⟩ := by
  refine go196 rfl ?_; simp only [go_sem, ↓reduceIte, Nat.reduceAdd, Nat.reduceSub, Nat.reduceEqDiff, Nat.reduceLT, Nat.reduceLeDiff, Nat.reduceMul, Int.reduceNeg, Int.reduceToNat, Int.reduceEq, Int.reduceLT, Int.reduceLE, reduceCtorEq, Tryz.f196, h]
theorem tagDoc_len (l : List Field) (d : Doc) (n : Str) (hds : DSm d) : (tagDoc l d n).length ≤ 1099511627776 := by
  by_cases hc : docOk l d = true ∧ (docText d n).2 = true ∧ (fieldOf l n).kind = 3
  · rw [tagDoc_yes hc.1 hc.2.1 hc.2.2]
    unfold tagsS
    split
    · have h3 := foldS_len (splitB 44 (docText d n).1) []
      have h4 := (splitB_len 44 (docText d n).1).1
      have h5 := List.count_le_length (l := (docText d n).1) (a := 44)
      have h6 := docText_len d n hds
      simp only [List.length_nil] at h3
      show ((splitB 44 (docText d n).1).foldl addS []).length ≤ 1099511627776
      omega
    · show 0 ≤ 1099511627776
      omega
  · rw [tagDoc_no hc]; simp
theorem okQ_node {dp : Nat} {q : Query} (h : okQ dp q = true) : ∃ e, dp = e + 1 ∧ nodeOk q = true ∧ ∀ x ∈ q.parts, okQ e x = true := by
  cases dp with
  | zero => cases h
  | succ e =>
    simp only [okQ, Bool.and_eq_true, List.all_eq_true] at h
    exact ⟨e, rfl, h.1, h.2⟩
theorem node_kinds {q : Query} (h : nodeOk q = true) : (1 ≤ q.kind ∧ q.kind ≤ 6 ∧ q.parts = []) ∨ ((q.kind = 7 ∨ q.kind = 8) ∧ q.parts ≠ []) ∨ (q.kind = 9 ∧ ∃ x, q.parts = [x]) := by
  unfold nodeOk at h
  split at h
  · rename_i hp
    left
    refine ⟨?_, ?_, hp⟩ <;> (unfold leafOk at h; grind)
  · rename_i hp
    simp only [Bool.and_eq_true, Bool.or_eq_true, decide_eq_true_eq] at h
    obtain ⟨⟨⟨⟨h1, _⟩, _⟩, _⟩, _⟩ := h
    rcases h1 with ⟨h1, _⟩ | ⟨h1, h2⟩
    · exact .inr (.inl ⟨h1, hp⟩)
    · exact .inr (.inr ⟨h1, by
        cases hq : q.parts with
        | nil => rw [hq] at h2; cases h2
        | cons x r => rw [hq] at h2; cases r with
          | nil => exact ⟨x, rfl⟩
          | cons y r => simp at h2⟩)
theorem any_not (f : Query → Bool) (ps : List Query) : (!ps.any fun x => !f x) = ps.all f := by
  induction ps with
  | nil => rfl
  | cons x ps ih => rw [List.any_cons, List.all_cons, ← ih]; cases f x <;> simp
theorem meets_R (l : List Field) (d : Doc) (hl : FSm l) (hds : DSm d) (hd : docOk l d = true) (dp : Nat) : ∀ q : Query, q.Sm → okQ dp q = true → R S0 138 [.agg [.int .i64 q.kind, .str q.field, .str q.text, .int .i64 q.low, .int .i64 q.high, .sl (q.parts.map pv)], .sl (l.map Field.pv), .agg [.str d.key, .sl (d.cells.map Cell.pv)]] = some ⟨[none, none, none], .bool (meetsM l d q)⟩ := by
  induction dp with
  | zero => intro q _ h; cases h
  | succ dp ih =>
    intro q hq hok
    obtain ⟨hll, _⟩ := id hl
    obtain ⟨_, hf, ht, hp, hs⟩ := id hq
    obtain ⟨e, he, hn, hps⟩ := okQ_node hok
    obtain rfl : dp = e := by omega
    have h1 : ∀ x ∈ q.parts, R S0 191 (.agg [.int .i64 x.kind, .str x.field, .str x.text, .int .i64 x.low, .int .i64 x.high, .sl (x.parts.map pv)] :: cap1 l d) = some ⟨[none, none, none], .bool (meetsM l d x)⟩ := fun x hx => meets1_R l d x _ (ih x (hs x hx) (hps x hx))
    have h2 : ∀ x ∈ q.parts, R S0 196 (.agg [.int .i64 x.kind, .str x.field, .str x.text, .int .i64 x.low, .int .i64 x.high, .sl (x.parts.map pv)] :: cap2 l d) = some ⟨[none, none], .bool (!meetsM l d x)⟩ := fun x hx => meets2_R l d x _ (h1 x hx)
    have hN : numDoc l d q.field = numD l d q.field := by rw [numDoc, if_pos hd]
    have hT : tagDoc l d q.field = tagsD l d q.field := by rw [tagDoc, if_pos hd]
    have hfin := meetsM_eq l d q
    rcases node_kinds hn with ⟨k1, k2, k3⟩ | ⟨k1, k3⟩ | ⟨k1, x, k3⟩
    · rw [if_neg (by omega), if_neg (by omega), if_neg (by omega)] at hfin
      unfold leafM at hfin
      by_cases c1 : q.kind = 1
      · refine go138 rfl ?_; simp only [go_sem, ↓reduceIte, Nat.reduceAdd, Nat.reduceSub, Nat.reduceEqDiff, Nat.reduceLT, Nat.reduceLeDiff, Nat.reduceMul, Int.reduceNeg, Int.reduceToNat, Int.reduceEq, Int.reduceLT, Int.reduceLE, reduceCtorEq, Tryz.f138, c1]
        rw [hfin, if_pos c1]
      by_cases c5 : q.kind = 5
      · rw [if_neg c1, if_pos c5, hN] at hfin
        refine go138 rfl ?_; simp only [go_sem, ↓reduceIte, Nat.reduceAdd, Nat.reduceSub, Nat.reduceEqDiff, Nat.reduceLT, Nat.reduceLeDiff, Nat.reduceMul, Int.reduceNeg, Int.reduceToNat, Int.reduceEq, Int.reduceLT, Int.reduceLE, reduceCtorEq, Tryz.f138, c1, c5, hl, hll, hds, hf]
        rw [hfin]
        cases (numD l d q.field).2 <;> simp
      by_cases c6 : q.kind = 6
      · rw [if_neg c1, if_neg c5, if_pos c6, hT] at hfin
        have hlen : (tagsD l d q.field).length ≤ 1099511627776 := hT ▸ tagDoc_len l d q.field hds
        refine go138 rfl ?_; simp only [go_sem, ↓reduceIte, Nat.reduceAdd, Nat.reduceSub, Nat.reduceEqDiff, Nat.reduceLT, Nat.reduceLeDiff, Nat.reduceMul, Int.reduceNeg, Int.reduceToNat, Int.reduceEq, Int.reduceLT, Int.reduceLE, reduceCtorEq, Tryz.f138, c1, c5, c6, hl, hll, hds, hf, hlen]
        refine ⟨by decide +kernel, ?_⟩
        rw [hfin, List.contains_eq_mem]
      · rw [if_neg c1, if_neg c5, if_neg c6] at hfin
        have h234 : q.kind = 2 ∨ q.kind = 3 ∨ q.kind = 4 := by omega
        by_cases c2 : q.kind = 2
        · have c2t := eq_true c2
          refine go138 rfl ?_; simp only [go_sem, ↓reduceIte, Nat.reduceAdd, Nat.reduceSub, Nat.reduceEqDiff, Nat.reduceLT, Nat.reduceLeDiff, Nat.reduceMul, Int.reduceNeg, Int.reduceToNat, Int.reduceEq, Int.reduceLT, Int.reduceLE, reduceCtorEq, Tryz.f138, c1, c2t, hl, hll, hds, hd, hf, ht]
          rw [hfin]
          exact decide_eq_decide.2 (by omega)
        by_cases c3 : q.kind = 3
        · have c3t := eq_true c3
          refine go138 rfl ?_; simp only [go_sem, ↓reduceIte, Nat.reduceAdd, Nat.reduceSub, Nat.reduceEqDiff, Nat.reduceLT, Nat.reduceLeDiff, Nat.reduceMul, Int.reduceNeg, Int.reduceToNat, Int.reduceEq, Int.reduceLT, Int.reduceLE, reduceCtorEq, Tryz.f138, c1, c2, c3t, hl, hll, hds, hd, hf, ht]
          rw [hfin]
          exact decide_eq_decide.2 (by omega)
        · have c4t := eq_true (show q.kind = 4 by omega)
          refine go138 rfl ?_; simp only [go_sem, ↓reduceIte, Nat.reduceAdd, Nat.reduceSub, Nat.reduceEqDiff, Nat.reduceLT, Nat.reduceLeDiff, Nat.reduceMul, Int.reduceNeg, Int.reduceToNat, Int.reduceEq, Int.reduceLT, Int.reduceLE, reduceCtorEq, Tryz.f138, c1, c2, c3, c4t, hl, hll, hds, hd, hf, ht]
          rw [hfin]
          exact decide_eq_decide.2 (by omega)
    · by_cases c7 : q.kind = 7
      · rw [if_pos c7] at hfin
        have h3 := containsF2_R l d (fun x => !meetsM l d x) q.parts hp h2
        have h4 := any_not (meetsM l d) q.parts
        refine go138 rfl ?_; simp only [go_sem, ↓reduceIte, Nat.reduceAdd, Nat.reduceSub, Nat.reduceEqDiff, Nat.reduceLT, Nat.reduceLeDiff, Nat.reduceMul, Int.reduceNeg, Int.reduceToNat, Int.reduceEq, Int.reduceLT, Int.reduceLE, reduceCtorEq, Tryz.f138, c7, h3, h4]
        rw [hfin]
      · have c8 : q.kind = 8 := k1.resolve_left c7
        rw [if_neg c7, if_pos c8] at hfin
        have h3 := containsF1_R l d (meetsM l d) q.parts hp h1
        refine go138 rfl ?_; simp only [go_sem, ↓reduceIte, Nat.reduceAdd, Nat.reduceSub, Nat.reduceEqDiff, Nat.reduceLT, Nat.reduceLeDiff, Nat.reduceMul, Int.reduceNeg, Int.reduceToNat, Int.reduceEq, Int.reduceLT, Int.reduceLE, reduceCtorEq, Tryz.f138, c8, h3]
        rw [hfin]
    · rw [if_neg (by omega), if_neg (by omega), if_pos k1, k3] at hfin
      have h3 := h1 x (by rw [k3]; simp)
      refine go138 rfl ?_; simp only [go_sem, ↓reduceIte, Nat.reduceAdd, Nat.reduceSub, Nat.reduceEqDiff, Nat.reduceLT, Nat.reduceLeDiff, Nat.reduceMul, Int.reduceNeg, Int.reduceToNat, Int.reduceEq, Int.reduceLT, Int.reduceLE, reduceCtorEq, Tryz.f138, k1, k3, h3]
      rw [hfin, meetsNot]
@[go_sem] theorem l4Begins_R (s p : Str) : R S0 203 [.str s, .str p] = some ⟨[none, none], .bool (begM p s)⟩ := by
  have e1 : cut s 0 (p.length : Int) = s.take p.length := cut_take s p.length
  by_cases h : p.length ≤ s.length
  · have h2 : (p.length : Int) ≤ s.length := by omega
    have e : begM p s = decide (s.take p.length = p) := by rw [begM, decide_eq_true h, Bool.true_and]
    refine go203 rfl ?_; simp only [go_sem, ↓reduceIte, Nat.reduceAdd, Nat.reduceSub, Nat.reduceEqDiff, Nat.reduceLT, Nat.reduceLeDiff, Nat.reduceMul, Int.reduceNeg, Int.reduceToNat, Int.reduceEq, Int.reduceLT, Int.reduceLE, reduceCtorEq, Tryz.f203, h2, e1, e]
  · have h2 : ¬ (p.length : Int) ≤ s.length := by omega
    have e : begM p s = false := by rw [begM, decide_eq_false h, Bool.false_and]
    refine go203 rfl ?_; simp only [go_sem, ↓reduceIte, Nat.reduceAdd, Nat.reduceSub, Nat.reduceEqDiff, Nat.reduceLT, Nat.reduceLeDiff, Nat.reduceMul, Int.reduceNeg, Int.reduceToNat, Int.reduceEq, Int.reduceLT, Int.reduceLE, reduceCtorEq, Tryz.f203, h2, e]
def begP (p t : Str) : Bool := decide (t ≠ []) && begM p t
@[go_sem] theorem l6Begun_R (a : List Str) (p : Str) (ha : a.length ≤ 1099511627776) : R S0 265 [.sl (a.map .str), .str p] = some ⟨[none, none], .bool (a.any (begP p))⟩ := by
  refine go265 rfl ?_; simp only [go_sem, ↓reduceIte, Nat.reduceAdd, Nat.reduceSub, Nat.reduceEqDiff, Nat.reduceLT, Nat.reduceLeDiff, Nat.reduceMul, Int.reduceNeg, Int.reduceToNat, Int.reduceEq, Int.reduceLT, Int.reduceLE, reduceCtorEq, Tryz.f265]
  refine ends_for a.length (by omega) (fun i _ => mkSt [(0, .sl (a.map .str)), (1, .str p), (5, .int .i64 i)] []) (fun i _ => (a.drop i).any (begP p) = a.any (begP p)) 0 () (by omega) rfl ?_ ?_
  · rintro i _ hi hI hw ih
    obtain ⟨y, hy, hg, hd⟩ := drop_get hi default
    rw [hd, List.any_cons] at hI
    by_cases h0 : y = []
    · have hb : begP p y = false := by rw [begP, h0]; rfl
      rw [hb, Bool.false_or] at hI
      simp only [go_sem, ↓reduceIte, Nat.reduceAdd, Nat.reduceSub, Nat.reduceEqDiff, Nat.reduceLT, Nat.reduceLeDiff, Nat.reduceMul, Int.reduceNeg, Int.reduceToNat, Int.reduceEq, Int.reduceLT, Int.reduceLE, reduceCtorEq, hi, hw, hg, h0]
      exact ih () hI
    · cases hb : begM p y with
      | true =>
        have hb2 : begP p y = true := by rw [begP, hb, decide_eq_true h0]; rfl
        rw [hb2, Bool.true_or] at hI
        simp only [go_sem, ↓reduceIte, Nat.reduceAdd, Nat.reduceSub, Nat.reduceEqDiff, Nat.reduceLT, Nat.reduceLeDiff, Nat.reduceMul, Int.reduceNeg, Int.reduceToNat, Int.reduceEq, Int.reduceLT, Int.reduceLE, reduceCtorEq, hi, hw, hg, h0, hb]
        rw [← hI]
      | false =>
        have hb2 : begP p y = false := by rw [begP, hb, Bool.and_false]
        rw [hb2, Bool.false_or] at hI
        simp only [go_sem, ↓reduceIte, Nat.reduceAdd, Nat.reduceSub, Nat.reduceEqDiff, Nat.reduceLT, Nat.reduceLeDiff, Nat.reduceMul, Int.reduceNeg, Int.reduceToNat, Int.reduceEq, Int.reduceLT, Int.reduceLE, reduceCtorEq, hi, hw, hg, h0, hb]
        exact ih () hI
  · rintro _ hI
    rw [List.drop_length, List.any_nil] at hI
    simp only [go_sem, ↓reduceIte, Nat.reduceAdd, Nat.reduceSub, Nat.reduceEqDiff, Nat.reduceLT, Nat.reduceLeDiff, Nat.reduceMul, Int.reduceNeg, Int.reduceToNat, Int.reduceEq, Int.reduceLT, Int.reduceLE, reduceCtorEq]
    rw [← hI]
@[go_sem] theorem l6Run_R (a b : List Str) (ha : a.length ≤ 1099511627776) (hb : b.length ≤ 1099511627776) : R S0 266 [.sl (a.map .str), .sl (b.map .str)] = some ⟨[none, none], .bool (decide (0 < cntTo (runAt a b) (a.length + 1 - b.length)))⟩ := by
  refine go266 rfl ?_; simp only [go_sem, ↓reduceIte, Nat.reduceAdd, Nat.reduceSub, Nat.reduceEqDiff, Nat.reduceLT, Nat.reduceLeDiff, Nat.reduceMul, Int.reduceNeg, Int.reduceToNat, Int.reduceEq, Int.reduceLT, Int.reduceLE, reduceCtorEq, Tryz.f266]
  refine ends_for (a.length + 1 - b.length) (by omega) (fun i _ => mkSt [(0, .sl (a.map .str)), (1, .sl (b.map .str)), (5, .int .i64 i)] []) (fun i _ => cntTo (runAt a b) i = 0) 0 () (by omega) rfl ?_ ?_
  · rintro i _ hi hI hw ih
    have hw1 : IntKind.i64.wrap ((i : Int) + (b.length : Int)) = ((i + b.length : Nat) : Int) := by rw [wrap_in (by omega) (by omega)]; omega
    have hle : i + b.length ≤ a.length := by omega
    simp only [go_sem, ↓reduceIte, Nat.reduceAdd, Nat.reduceSub, Nat.reduceEqDiff, Nat.reduceLT, Nat.reduceLeDiff, Nat.reduceMul, Int.reduceNeg, Int.reduceToNat, Int.reduceEq, Int.reduceLT, Int.reduceLE, reduceCtorEq, hi, hw1, hle]
    refine ends_for b.length (by omega) (fun k (same : Bool) => mkSt [(0, .sl (a.map .str)), (1, .sl (b.map .str)), (5, .int .i64 i), (6, .bool same), (7, .int .i64 k)] []) (fun k same => same = decide ((a.drop i).take k = b.take k)) 0 true (by omega) (by simp) ?_ ?_
    · rintro k same hk hS hwk ihk
      obtain ⟨y, hy, hgy, _⟩ := drop_get hk default
      have hik : i + k < a.length := by omega
      obtain ⟨x, hx, hgx, _⟩ := drop_get hik default
      have hw2 : IntKind.i64.wrap ((i : Int) + (k : Int)) = ((i + k : Nat) : Int) := by rw [wrap_in (by omega) (by omega)]; omega
      have hxk : (a.drop i)[k]? = some x := by rw [List.getElem?_drop]; exact hx
      have htk : ((a.drop i).take (k + 1) = b.take (k + 1)) ↔ ((a.drop i).take k = b.take k ∧ x = y) := by
        rw [List.take_add_one, List.take_add_one, hxk, hy]
        simp only [Option.toList_some]
        constructor
        · intro h
          have := List.append_inj h (by simp; omega)
          exact ⟨this.1, by simpa using this.2⟩
        · rintro ⟨h1, h2⟩
          rw [h1, h2]
      cases same with
      | true =>
        have hS2 : (a.drop i).take k = b.take k := by simpa using hS.symm
        simp only [go_sem, ↓reduceIte, Nat.reduceAdd, Nat.reduceSub, Nat.reduceEqDiff, Nat.reduceLT, Nat.reduceLeDiff, Nat.reduceMul, Int.reduceNeg, Int.reduceToNat, Int.reduceEq, Int.reduceLT, Int.reduceLE, reduceCtorEq, hk, hwk, hw2, hik, hgx, hgy]
        refine ihk _ ?_
        apply decide_eq_decide.2
        rw [htk]
        exact ⟨fun h => ⟨hS2, h⟩, fun h => h.2⟩
      | false =>
        have hS2 : ¬ (a.drop i).take k = b.take k := by simpa using hS.symm
        simp only [go_sem, ↓reduceIte, Nat.reduceAdd, Nat.reduceSub, Nat.reduceEqDiff, Nat.reduceLT, Nat.reduceLeDiff, Nat.reduceMul, Int.reduceNeg, Int.reduceToNat, Int.reduceEq, Int.reduceLT, Int.reduceLE, reduceCtorEq, hk, hwk]
        refine ihk _ ?_
        symm
        apply decide_eq_false
        rw [htk]
        exact fun h => hS2 h.1
    · rintro same hS
      rw [List.take_length] at hS
      have hr : same = runAt a b i := hS
      cases hc : runAt a b i with
      | true =>
        rw [hc] at hr
        have e : decide (0 < cntTo (runAt a b) (a.length + 1 - b.length)) = true := decide_eq_true (cntTo_pos.2 ⟨i, hi, hc⟩)
        simp only [go_sem, ↓reduceIte, Nat.reduceAdd, Nat.reduceSub, Nat.reduceEqDiff, Nat.reduceLT, Nat.reduceLeDiff, Nat.reduceMul, Int.reduceNeg, Int.reduceToNat, Int.reduceEq, Int.reduceLT, Int.reduceLE, reduceCtorEq, hr, e]
      | false =>
        rw [hc] at hr
        simp only [go_sem, ↓reduceIte, Nat.reduceAdd, Nat.reduceSub, Nat.reduceEqDiff, Nat.reduceLT, Nat.reduceLeDiff, Nat.reduceMul, Int.reduceNeg, Int.reduceToNat, Int.reduceEq, Int.reduceLT, Int.reduceLE, reduceCtorEq, hr, hw]
        exact ih () (by rw [cntTo, if_neg (by rw [hc]; simp), hI])
  · rintro _ hI
    have hw1 : IntKind.i64.wrap (((a.length + 1 - b.length : Nat) : Int) + (b.length : Int)) = ((a.length + 1 - b.length + b.length : Nat) : Int) := by rw [wrap_in (by omega) (by omega)]; omega
    have hle : ¬ (a.length + 1 - b.length + b.length ≤ a.length) := by omega
    have e : decide (0 < cntTo (runAt a b) (a.length + 1 - b.length)) = false := by rw [hI]; rfl
    simp only [go_sem, ↓reduceIte, Nat.reduceAdd, Nat.reduceSub, Nat.reduceEqDiff, Nat.reduceLT, Nat.reduceLeDiff, Nat.reduceMul, Int.reduceNeg, Int.reduceToNat, Int.reduceEq, Int.reduceLT, Int.reduceLE, reduceCtorEq, hw1, hle, e]
@[go_sem] theorem l6Text_R (s : Str) (q : Query) (hs : s.length ≤ 1099511627776) (ht : q.text.length ≤ 1099511627776) : R S0 233 [.str s, .agg [.int .i64 q.kind, .str q.field, .str q.text, .int .i64 q.low, .int .i64 q.high, .sl (q.parts.map pv)]] = some ⟨[none, none], .bool (decide (0 < timesN q s))⟩ := by
  have hl1 := words_len2 s
  have hl2 := words_len2 q.text
  have hl3 : (terms s).length ≤ 1099511627776 := by omega
  have hl4 : (terms q.text).length ≤ 1099511627776 := by omega
  by_cases hk : q.kind = 4
  · have e : decide (0 < timesN q s) = (terms s).any (begP q.text) := by
      rw [timesN, if_pos hk, Bool.eq_iff_iff, decide_eq_true_iff, List.countP_pos_iff, List.any_eq_true]
      rfl
    refine go233 rfl ?_; simp only [go_sem, ↓reduceIte, Nat.reduceAdd, Nat.reduceSub, Nat.reduceEqDiff, Nat.reduceLT, Nat.reduceLeDiff, Nat.reduceMul, Int.reduceNeg, Int.reduceToNat, Int.reduceEq, Int.reduceLT, Int.reduceLE, reduceCtorEq, Tryz.f233, hs, ht, hk, hl3, hl4, e]
  · have e : decide (0 < timesN q s) = decide (0 < cntTo (runAt (terms s) (terms q.text)) ((terms s).length + 1 - (terms q.text).length)) := by rw [timesN, if_neg hk]
    refine go233 rfl ?_; simp only [go_sem, ↓reduceIte, Nat.reduceAdd, Nat.reduceSub, Nat.reduceEqDiff, Nat.reduceLT, Nat.reduceLeDiff, Nat.reduceMul, Int.reduceNeg, Int.reduceToNat, Int.reduceEq, Int.reduceLT, Int.reduceLE, reduceCtorEq, Tryz.f233, hs, ht, hk, hl3, hl4, e]
def cellM (l : List Field) (q : Query) (c : Cell) : Bool := looksAt l q c && decide (0 < timesN q c.text)
theorem cellW_pos {l : List Field} {q : Query} {c : Cell} (h : fieldsOk l = true) : 0 < cellW l q c ↔ cellM l q c = true := by
  unfold cellW cellM
  split
  · rename_i hk
    simp only [hk, Bool.true_and, decide_eq_true_eq]
    simp only [looksAt, Bool.and_eq_true, decide_eq_true_eq] at hk
    obtain ⟨w1, w2⟩ := weight_in h hk.1
    constructor
    · intro hp
      exact Nat.pos_of_mul_pos_right hp
    · intro hp
      exact Nat.mul_pos hp (by omega)
  · rename_i hk
    rw [Bool.not_eq_true] at hk
    simp [hk]
theorem sumW_pos {l : List Field} {q : Query} (h : fieldsOk l = true) : ∀ cs : List Cell, decide (0 < (cs.map (cellW l q)).sum) = cs.any (cellM l q)
  | [] => rfl
  | c :: cs => by
    have ih := sumW_pos (q := q) h cs
    have hc := cellW_pos (q := q) (c := c) h
    rw [List.any_cons, ← ih, List.map_cons, List.sum_cons, Bool.eq_iff_iff, Bool.or_eq_true, decide_eq_true_iff, decide_eq_true_iff, ← hc]
    omega
@[go_sem] theorem l6Leaf_R (l : List Field) (d : Doc) (q : Query) (hl : FSm l) (hds : DSm d) (hd : docOk l d = true) (hf : q.field.length ≤ 1099511627776) (ht : q.text.length ≤ 1099511627776) : R S0 189 [.sl (l.map Field.pv), .agg [.str d.key, .sl (d.cells.map Cell.pv)], .agg [.int .i64 q.kind, .str q.field, .str q.text, .int .i64 q.low, .int .i64 q.high, .sl (q.parts.map pv)]] = some ⟨[none, none, none], .bool (leafM l d q)⟩ := by
  obtain ⟨hll, _⟩ := id hl
  obtain ⟨hfo, hcl, hcs⟩ := docOk_parts hd
  by_cases c1 : q.kind = 1
  · have e : leafM l d q = true := by rw [leafM, if_pos c1]
    refine go189 rfl ?_; simp only [go_sem, ↓reduceIte, Nat.reduceAdd, Nat.reduceSub, Nat.reduceEqDiff, Nat.reduceLT, Nat.reduceLeDiff, Nat.reduceMul, Int.reduceNeg, Int.reduceToNat, Int.reduceEq, Int.reduceLT, Int.reduceLE, reduceCtorEq, Tryz.f189, c1, e]
  by_cases c5 : q.kind = 5
  · have e : leafM l d q = ((numDoc l d q.field).2 && inB (numDoc l d q.field).1 q.low q.high) := by rw [leafM, if_neg c1, if_pos c5]
    rw [e]
    cases hn : (numDoc l d q.field).2 with
    | true => refine go189 rfl ?_; simp only [go_sem, ↓reduceIte, Nat.reduceAdd, Nat.reduceSub, Nat.reduceEqDiff, Nat.reduceLT, Nat.reduceLeDiff, Nat.reduceMul, Int.reduceNeg, Int.reduceToNat, Int.reduceEq, Int.reduceLT, Int.reduceLE, reduceCtorEq, Tryz.f189, c1, c5, hl, hds, hn]
    | false => refine go189 rfl ?_; simp only [go_sem, ↓reduceIte, Nat.reduceAdd, Nat.reduceSub, Nat.reduceEqDiff, Nat.reduceLT, Nat.reduceLeDiff, Nat.reduceMul, Int.reduceNeg, Int.reduceToNat, Int.reduceEq, Int.reduceLT, Int.reduceLE, reduceCtorEq, Tryz.f189, c1, c5, hl, hds, hn]
  by_cases c6 : q.kind = 6
  · have e : leafM l d q = decide (q.text ∈ tagDoc l d q.field) := by rw [leafM, if_neg c1, if_neg c5, if_pos c6]
    have hlen : (tagDoc l d q.field).length ≤ 1099511627776 := tagDoc_len l d q.field hds
    rw [e]
    refine go189 rfl ?_; simp only [go_sem, ↓reduceIte, Nat.reduceAdd, Nat.reduceSub, Nat.reduceEqDiff, Nat.reduceLT, Nat.reduceLeDiff, Nat.reduceMul, Int.reduceNeg, Int.reduceToNat, Int.reduceEq, Int.reduceLT, Int.reduceLE, reduceCtorEq, Tryz.f189, c1, c5, c6, hl, hds]
    refine ends_for (tagDoc l d q.field).length (by omega) (fun i _ => mkSt [(5, .addr 0 0 0), (9, .own 1), (10, .int .i64 i)] [.pto [.int .i64 6, .str q.field, .str q.text, .int .i64 q.low, .int .i64 q.high, .sl (q.parts.map pv)], .slo 1 ((tagDoc l d q.field).map .str)]) (fun i _ => ∀ t ∈ (tagDoc l d q.field).take i, ¬ t = q.text) 0 () (by omega) (by simp) ?_ ?_
    · rintro i _ hi hI hw ih
      obtain ⟨y, hy, hg, hdr⟩ := drop_get hi default
      by_cases he : y = q.text
      · have e2 : decide (q.text ∈ tagDoc l d q.field) = true := decide_eq_true (he ▸ List.mem_of_getElem? hy)
        simp only [go_sem, ↓reduceIte, Nat.reduceAdd, Nat.reduceSub, Nat.reduceEqDiff, Nat.reduceLT, Nat.reduceLeDiff, Nat.reduceMul, Int.reduceNeg, Int.reduceToNat, Int.reduceEq, Int.reduceLT, Int.reduceLE, reduceCtorEq, hi, hw, hg, hy, he, e2]
      · simp only [go_sem, ↓reduceIte, Nat.reduceAdd, Nat.reduceSub, Nat.reduceEqDiff, Nat.reduceLT, Nat.reduceLeDiff, Nat.reduceMul, Int.reduceNeg, Int.reduceToNat, Int.reduceEq, Int.reduceLT, Int.reduceLE, reduceCtorEq, hi, hw, hg, hy, he]
        exact ih () fun t htm => by
          rw [List.take_add_one, hy, List.mem_append] at htm
          rcases htm with h | h
          · exact hI t h
          · simp at h; subst h; exact he
    · rintro _ hI
      rw [List.take_length] at hI
      have e2 : decide (q.text ∈ tagDoc l d q.field) = false := decide_eq_false fun h => hI _ h rfl
      simp only [go_sem, ↓reduceIte, Nat.reduceAdd, Nat.reduceSub, Nat.reduceEqDiff, Nat.reduceLT, Nat.reduceLeDiff, Nat.reduceMul, Int.reduceNeg, Int.reduceToNat, Int.reduceEq, Int.reduceLT, Int.reduceLE, reduceCtorEq, e2]
  · have e : leafM l d q = d.cells.any (cellM l q) := by rw [leafM, if_neg c1, if_neg c5, if_neg c6, weightN, sumW_pos hfo]
    rw [e]
    refine go189 rfl ?_; simp only [go_sem, ↓reduceIte, Nat.reduceAdd, Nat.reduceSub, Nat.reduceEqDiff, Nat.reduceLT, Nat.reduceLeDiff, Nat.reduceMul, Int.reduceNeg, Int.reduceToNat, Int.reduceEq, Int.reduceLT, Int.reduceLE, reduceCtorEq, Tryz.f189, c1, c5, c6]
    refine ends_for d.cells.length (by omega) (fun i _ => mkSt [(0, .sl (l.map Field.pv)), (4, .addr 0 0 0), (5, .addr 1 0 0), (11, .int .i64 i)] [.pto [.str d.key, .sl (d.cells.map Cell.pv)], .pto [.int .i64 q.kind, .str q.field, .str q.text, .int .i64 q.low, .int .i64 q.high, .sl (q.parts.map pv)]]) (fun i _ => (d.cells.drop i).any (cellM l q) = d.cells.any (cellM l q)) 0 () (by omega) rfl ?_ ?_
    · rintro i _ hi hI hw ih
      obtain ⟨c, hx, hg, hdr⟩ := drop_get hi default
      obtain ⟨hc1, hc2⟩ := hcs c (List.mem_of_getElem? hx)
      have hc1' : c.text.length ≤ 1099511627776 := by omega
      have hc2' : c.name.length ≤ 1099511627776 := by omega
      rw [hdr, List.any_cons] at hI
      have hka := kind_any (l := l) (n := c.name) (k := 1) (by decide)
      have hm : cellM l q c = (kindF l c.name 1 && (decide (q.field = []) || decide (q.field = c.name)) && decide (0 < timesN q c.text)) := rfl
      by_cases h3 : q.field = []
      · have h3t := eq_true h3
        have hm2 : cellM l q c = (kindF l c.name 1 && decide (0 < timesN q c.text)) := by rw [hm, decide_eq_true h3, Bool.true_or, Bool.and_true]
        simp only [go_sem, ↓reduceIte, Nat.reduceAdd, Nat.reduceSub, Nat.reduceEqDiff, Nat.reduceLT, Nat.reduceLeDiff, Nat.reduceMul, Int.reduceNeg, Int.reduceToNat, Int.reduceEq, Int.reduceLT, Int.reduceLE, reduceCtorEq, hi, hw, hg, hll, hc1', hc2', ht, h3t, hka]
        rw [hm2] at hI
        have ih := ih ()
        generalize Ends S0 _ _ _ = W at ih ⊢
        cases hk : kindF l c.name 1 <;> cases hz : decide (0 < timesN q c.text) <;> simp_all
      · by_cases h4 : q.field = c.name
        · have h4t := eq_true h4
          have hm2 : cellM l q c = (kindF l c.name 1 && decide (0 < timesN q c.text)) := by rw [hm, decide_eq_true h4, Bool.or_true, Bool.and_true]
          simp only [go_sem, ↓reduceIte, Nat.reduceAdd, Nat.reduceSub, Nat.reduceEqDiff, Nat.reduceLT, Nat.reduceLeDiff, Nat.reduceMul, Int.reduceNeg, Int.reduceToNat, Int.reduceEq, Int.reduceLT, Int.reduceLE, reduceCtorEq, hi, hw, hg, hll, hc1', hc2', ht, h3, h4t, hka]
          rw [hm2] at hI
          have ih := ih ()
          generalize Ends S0 _ _ _ = W at ih ⊢
          cases hk : kindF l c.name 1 <;> cases hz : decide (0 < timesN q c.text) <;> simp_all
        · have hm2 : cellM l q c = false := by rw [hm, decide_eq_false h3, decide_eq_false h4]; simp
          rw [hm2, Bool.false_or] at hI
          simp only [go_sem, ↓reduceIte, Nat.reduceAdd, Nat.reduceSub, Nat.reduceEqDiff, Nat.reduceLT, Nat.reduceLeDiff, Nat.reduceMul, Int.reduceNeg, Int.reduceToNat, Int.reduceEq, Int.reduceLT, Int.reduceLE, reduceCtorEq, hi, hw, hg, hll, hc1', hc2', ht, h3, h4]
          exact ih () hI
    · rintro _ hI
      rw [List.drop_length, List.any_nil] at hI
      simp only [go_sem, ↓reduceIte, Nat.reduceAdd, Nat.reduceSub, Nat.reduceEqDiff, Nat.reduceLT, Nat.reduceLeDiff, Nat.reduceMul, Int.reduceNeg, Int.reduceToNat, Int.reduceEq, Int.reduceLT, Int.reduceLE, reduceCtorEq]
      rw [← hI]
theorem specMeets_R6 (l : List Field) (d : Doc) (hl : FSm l) (hds : DSm d) (hd : docOk l d = true) (dp : Nat) : ∀ q : Query, q.Sm → okQ dp q = true → R S0 136 [.sl (l.map Field.pv), .agg [.str d.key, .sl (d.cells.map Cell.pv)], .agg [.int .i64 q.kind, .str q.field, .str q.text, .int .i64 q.low, .int .i64 q.high, .sl (q.parts.map pv)]] = some ⟨[none, none, none], .bool (meetsM l d q)⟩ := by
  induction dp with
  | zero => intro q _ h; cases h
  | succ dp ih =>
    intro q hq hok
    obtain ⟨hll, _⟩ := id hl
    obtain ⟨_, hf, ht, hp, hs⟩ := id hq
    obtain ⟨e, he, hn, hps⟩ := okQ_node hok
    obtain rfl : dp = e := by omega
    have h1 : ∀ x ∈ q.parts, R S0 136 [.sl (l.map Field.pv), .agg [.str d.key, .sl (d.cells.map Cell.pv)], .agg [.int .i64 x.kind, .str x.field, .str x.text, .int .i64 x.low, .int .i64 x.high, .sl (x.parts.map pv)]] = some ⟨[none, none, none], .bool (meetsM l d x)⟩ := fun x hx => ih x (hs x hx) (hps x hx)
    have hfin := meetsM_eq l d q
    rcases node_kinds hn with ⟨k1, k2, k3⟩ | ⟨k1, k3⟩ | ⟨k1, x, k3⟩
    · rw [if_neg (by omega), if_neg (by omega), if_neg (by omega)] at hfin
      have c7 : ¬ q.kind = 7 := by omega
      have c8 : ¬ q.kind = 8 := by omega
      have c9 : ¬ q.kind = 9 := by omega
      refine go136 rfl ?_; simp only [go_sem, ↓reduceIte, Nat.reduceAdd, Nat.reduceSub, Nat.reduceEqDiff, Nat.reduceLT, Nat.reduceLeDiff, Nat.reduceMul, Int.reduceNeg, Int.reduceToNat, Int.reduceEq, Int.reduceLT, Int.reduceLE, reduceCtorEq, Tryz.f136, c7, c8, c9, hl, hds, hd, hf, ht]
      rw [hfin]
    · by_cases c7 : q.kind = 7
      · rw [if_pos c7] at hfin
        rw [hfin]
        refine go136 rfl ?_; simp only [go_sem, ↓reduceIte, Nat.reduceAdd, Nat.reduceSub, Nat.reduceEqDiff, Nat.reduceLT, Nat.reduceLeDiff, Nat.reduceMul, Int.reduceNeg, Int.reduceToNat, Int.reduceEq, Int.reduceLT, Int.reduceLE, reduceCtorEq, Tryz.f136, c7]
        refine ends_for q.parts.length (by omega) (fun i _ => mkSt [(0, .sl (l.map Field.pv)), (4, .addr 0 0 0), (5, .addr 1 0 0), (7, .int .i64 i)] [.pto [.str d.key, .sl (d.cells.map Cell.pv)], .pto [.int .i64 7, .str q.field, .str q.text, .int .i64 q.low, .int .i64 q.high, .sl (q.parts.map pv)]]) (fun i _ => (q.parts.drop i).all (meetsM l d) = q.parts.all (meetsM l d)) 0 () (by omega) rfl ?_ ?_
        · rintro i _ hi hI hw ih
          obtain ⟨x, hx, hg, hdr⟩ := drop_get hi default
          have hx1 := h1 x (List.mem_of_getElem? hx)
          rw [hdr, List.all_cons] at hI
          cases hm : meetsM l d x with
          | true =>
            rw [hm] at hx1 hI
            simp only [go_sem, ↓reduceIte, Nat.reduceAdd, Nat.reduceSub, Nat.reduceEqDiff, Nat.reduceLT, Nat.reduceLeDiff, Nat.reduceMul, Int.reduceNeg, Int.reduceToNat, Int.reduceEq, Int.reduceLT, Int.reduceLE, reduceCtorEq, hi, hw, hg, hx1]
            exact ih () (by simpa using hI)
          | false =>
            rw [hm] at hx1 hI
            simp only [go_sem, ↓reduceIte, Nat.reduceAdd, Nat.reduceSub, Nat.reduceEqDiff, Nat.reduceLT, Nat.reduceLeDiff, Nat.reduceMul, Int.reduceNeg, Int.reduceToNat, Int.reduceEq, Int.reduceLT, Int.reduceLE, reduceCtorEq, hi, hw, hg, hx1]
            rw [← hI]; rfl
        · rintro _ hI
          rw [List.drop_length, List.all_nil] at hI
          simp only [go_sem, ↓reduceIte, Nat.reduceAdd, Nat.reduceSub, Nat.reduceEqDiff, Nat.reduceLT, Nat.reduceLeDiff, Nat.reduceMul, Int.reduceNeg, Int.reduceToNat, Int.reduceEq, Int.reduceLT, Int.reduceLE, reduceCtorEq]
          rw [← hI]
      · have c8 : q.kind = 8 := k1.resolve_left c7
        rw [if_neg c7, if_pos c8] at hfin
        rw [hfin]
        refine go136 rfl ?_; simp only [go_sem, ↓reduceIte, Nat.reduceAdd, Nat.reduceSub, Nat.reduceEqDiff, Nat.reduceLT, Nat.reduceLeDiff, Nat.reduceMul, Int.reduceNeg, Int.reduceToNat, Int.reduceEq, Int.reduceLT, Int.reduceLE, reduceCtorEq, Tryz.f136, c7, c8]
        refine ends_for q.parts.length (by omega) (fun i _ => mkSt [(0, .sl (l.map Field.pv)), (4, .addr 0 0 0), (5, .addr 1 0 0), (8, .int .i64 i)] [.pto [.str d.key, .sl (d.cells.map Cell.pv)], .pto [.int .i64 8, .str q.field, .str q.text, .int .i64 q.low, .int .i64 q.high, .sl (q.parts.map pv)]]) (fun i _ => (q.parts.drop i).any (meetsM l d) = q.parts.any (meetsM l d)) 0 () (by omega) rfl ?_ ?_
        · rintro i _ hi hI hw ih
          obtain ⟨x, hx, hg, hdr⟩ := drop_get hi default
          have hx1 := h1 x (List.mem_of_getElem? hx)
          rw [hdr, List.any_cons] at hI
          cases hm : meetsM l d x with
          | true =>
            rw [hm] at hx1 hI
            simp only [go_sem, ↓reduceIte, Nat.reduceAdd, Nat.reduceSub, Nat.reduceEqDiff, Nat.reduceLT, Nat.reduceLeDiff, Nat.reduceMul, Int.reduceNeg, Int.reduceToNat, Int.reduceEq, Int.reduceLT, Int.reduceLE, reduceCtorEq, hi, hw, hg, hx1]
            rw [← hI]; rfl
          | false =>
            rw [hm] at hx1 hI
            simp only [go_sem, ↓reduceIte, Nat.reduceAdd, Nat.reduceSub, Nat.reduceEqDiff, Nat.reduceLT, Nat.reduceLeDiff, Nat.reduceMul, Int.reduceNeg, Int.reduceToNat, Int.reduceEq, Int.reduceLT, Int.reduceLE, reduceCtorEq, hi, hw, hg, hx1]
            exact ih () (by simpa using hI)
        · rintro _ hI
          rw [List.drop_length, List.any_nil] at hI
          simp only [go_sem, ↓reduceIte, Nat.reduceAdd, Nat.reduceSub, Nat.reduceEqDiff, Nat.reduceLT, Nat.reduceLeDiff, Nat.reduceMul, Int.reduceNeg, Int.reduceToNat, Int.reduceEq, Int.reduceLT, Int.reduceLE, reduceCtorEq]
          rw [← hI]
    · rw [if_neg (by omega), if_neg (by omega), if_pos k1, k3] at hfin
      have h3 := h1 x (by rw [k3]; simp)
      refine go136 rfl ?_; simp only [go_sem, ↓reduceIte, Nat.reduceAdd, Nat.reduceSub, Nat.reduceEqDiff, Nat.reduceLT, Nat.reduceLeDiff, Nat.reduceMul, Int.reduceNeg, Int.reduceToNat, Int.reduceEq, Int.reduceLT, Int.reduceLE, reduceCtorEq, Tryz.f136, k1, k3, h3]
      rw [hfin, meetsNot]
end Go.Proofs.YtmanllfmgghadaaGreatDoor.PVE
