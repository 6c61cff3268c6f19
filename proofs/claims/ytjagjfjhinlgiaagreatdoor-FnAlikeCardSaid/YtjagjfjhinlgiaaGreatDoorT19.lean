/- What a question asks of a document: the program's side. -/
import Derived.Test.YtjagjfjhinlgiaaGreatDoorT15
set_option linter.unusedVariables false
set_option linter.unusedSimpArgs false
set_option maxRecDepth 100000
namespace Go.Proofs.YtjagjfjhinlgiaaGreatDoor.PVE
open PV Query
def begM (p s : Str) : Bool := decide (p.length ≤ s.length) && decide (s.take p.length = p)
def runAt (all want : List Str) (i : Nat) : Bool := decide ((all.drop i).take want.length = want)
def cntTo (f : Nat → Bool) : Nat → Nat
  | 0 => 0
  | n + 1 => cntTo f n + if f n = true then 1 else 0
theorem cntTo_le (f : Nat → Bool) : ∀ n, cntTo f n ≤ n
  | 0 => Nat.le_refl _
  | n + 1 => by
    have := cntTo_le f n
    rw [cntTo]
    split <;> omega
theorem cntTo_pos {f : Nat → Bool} : ∀ {n : Nat}, 0 < cntTo f n ↔ ∃ i, i < n ∧ f i = true
  | 0 => by simp [cntTo]
  | n + 1 => by
    rw [cntTo]
    constructor
    · intro h
      by_cases hf : f n = true
      · exact ⟨n, by omega, hf⟩
      · rw [if_neg hf] at h
        obtain ⟨i, hi, hfi⟩ := cntTo_pos.1 (show 0 < cntTo f n by omega)
        exact ⟨i, by omega, hfi⟩
    · rintro ⟨i, hi, hfi⟩
      by_cases hin : i = n
      · subst hin; rw [if_pos hfi]; omega
      · have := cntTo_pos.2 ⟨i, (by omega : i < n), hfi⟩
        omega
/-- How often what is looked for is in a text. -/
def timesN (q : Query) (s : Str) : Nat :=
  if q.kind = 4 then (terms s).countP (fun t => decide (t ≠ []) && begM q.text t)
  else cntTo (runAt (terms s) (terms q.text)) ((terms s).length + 1 - (terms q.text).length)
theorem timesN_le (q : Query) (s : Str) : timesN q s ≤ s.length + 1 := by
  have h := words_len2 s
  unfold timesN
  split
  · have := List.countP_le_length (l := terms s) (p := fun t => decide (t ≠ []) && begM q.text t)
    omega
  · have := cntTo_le (runAt (terms s) (terms q.text)) ((terms s).length + 1 - (terms q.text).length)
    omega
/-- Whether a cell is one that a question of words looks at. -/
def looksAt (l : List Field) (q : Query) (c : Cell) : Bool := decide ((fieldOf l c.name).kind = 1) && (decide (q.field = []) || decide (q.field = c.name))
def cellW (l : List Field) (q : Query) (c : Cell) : Nat := if looksAt l q c = true then timesN q c.text * (fieldOf l c.name).weight.toNat else 0
def weightN (l : List Field) (d : Doc) (q : Query) : Nat := (d.cells.map (cellW l q)).sum
theorem fieldOf_mem {l : List Field} {n : Str} (h : (fieldOf l n).kind ≠ 0) : fieldOf l n ∈ l := by
  rcases fieldIx_cases l n with ⟨_, _, h3⟩ | ⟨_, h2, _, h4⟩
  · rw [h3] at h; exact absurd rfl h
  · rw [← h4, List.getD_eq_getElem?_getD, List.getElem?_eq_getElem h2]
    exact List.getElem_mem _
theorem fieldsL_ok : ∀ (l : List Field) (ns : List Str), fieldsL ns l = true → ∀ f ∈ l, fieldOk f = true
  | [], _, _, f, hf => by simp at hf
  | x :: l, ns, h, f, hf => by
    simp only [fieldsL, Bool.and_eq_true] at h
    rcases List.mem_cons.1 hf with rfl | hf
    · exact h.1.1
    · exact fieldsL_ok l _ h.2 f hf
theorem weight_in {l : List Field} {n : Str} (h : fieldsOk l = true) (hk : (fieldOf l n).kind = 1) : 1 ≤ (fieldOf l n).weight ∧ (fieldOf l n).weight ≤ 9 := by
  simp only [fieldsOk, Bool.and_eq_true] at h
  have hf := fieldsL_ok l [] h.1 _ (fieldOf_mem (n := n) (by rw [hk]; decide))
  simp only [fieldOk, Bool.and_eq_true, hk, if_true] at hf
  simpa [inB] using hf.2
theorem docOk_parts {l : List Field} {d : Doc} (h : docOk l d = true) : fieldsOk l = true ∧ d.cells.length ≤ 4 ∧ ∀ c ∈ d.cells, c.text.length ≤ 60 ∧ c.name.length ≤ 8 := by
  simp only [docOk, Bool.and_eq_true, docForm, decide_eq_true_eq] at h
  obtain ⟨⟨h1, ⟨h2, h3⟩, h4⟩, h5⟩ := h
  refine ⟨h1, h4, fun c hc => ?_⟩
  obtain ⟨k1, k2⟩ := formL_text _ _ h2 c hc
  simp only [textOk, Bool.and_eq_true, decide_eq_true_eq] at k1
  exact ⟨k1.2, nameOk_len k2⟩
theorem cellW_le {l : List Field} {d : Doc} (h : docOk l d = true) (q : Query) {c : Cell} (hc : c ∈ d.cells) : cellW l q c ≤ 549 := by
  obtain ⟨h1, h2, h3⟩ := docOk_parts h
  unfold cellW
  split
  · rename_i hk
    simp only [looksAt, Bool.and_eq_true, decide_eq_true_eq] at hk
    obtain ⟨w1, w2⟩ := weight_in h1 hk.1
    have ht := timesN_le q c.text
    have := (h3 c hc).1
    have h9 : timesN q c.text * (fieldOf l c.name).weight.toNat ≤ 61 * 9 := Nat.mul_le_mul (by omega) (by omega)
    omega
  · omega
theorem sumW_le {l : List Field} {d : Doc} (h : docOk l d = true) (q : Query) : ∀ {cs : List Cell}, (∀ c ∈ cs, c ∈ d.cells) → (cs.map (cellW l q)).sum ≤ 549 * cs.length
  | [], _ => by simp
  | c :: cs, hc => by
    have h1 := cellW_le h q (hc c (by simp))
    have h2 := sumW_le h q (cs := cs) (fun x hx => hc x (by simp [hx]))
    simp only [List.map_cons, List.sum_cons, List.length_cons]
    omega
/-- What a question without parts asks of a document. -/
def leafM (l : List Field) (d : Doc) (q : Query) : Bool :=
  if q.kind = 1 then true
  else if q.kind = 5 then (numDoc l d q.field).2 && inB (numDoc l d q.field).1 q.low q.high
  else if q.kind = 6 then decide (q.text ∈ tagDoc l d q.field)
  else decide (0 < weightN l d q)
mutual
def meetsM (l : List Field) (d : Doc) : Query → Bool | .mk k f t lo hi p => if k = 7 then meetsAll l d p else if k = 8 then meetsAny l d p else if k = 9 then meetsNot l d p else leafM l d (.mk k f t lo hi p)
def meetsAll (l : List Field) (d : Doc) : List Query → Bool
  | [] => true
  | q :: qs => meetsM l d q && meetsAll l d qs
def meetsAny (l : List Field) (d : Doc) : List Query → Bool
  | [] => false
  | q :: qs => meetsM l d q || meetsAny l d qs
def meetsNot (l : List Field) (d : Doc) : List Query → Bool
  | [] => true
  | q :: _ => !meetsM l d q
end
theorem meetsAll_all (l : List Field) (d : Doc) : ∀ p, meetsAll l d p = p.all (meetsM l d)
  | [] => rfl
  | q :: p => by rw [meetsAll, List.all_cons, meetsAll_all l d p]
theorem meetsAny_any (l : List Field) (d : Doc) : ∀ p, meetsAny l d p = p.any (meetsM l d)
  | [] => rfl
  | q :: p => by rw [meetsAny, List.any_cons, meetsAny_any l d p]
theorem meetsM_eq (l : List Field) (d : Doc) : ∀ q : Query, meetsM l d q = if q.kind = 7 then q.parts.all (meetsM l d) else if q.kind = 8 then q.parts.any (meetsM l d) else if q.kind = 9 then meetsNot l d q.parts else leafM l d q
  | .mk k f t lo hi p => by rw [meetsM, meetsAll_all, meetsAny_any]; rfl
/-- The first of a list's elements that is so. -/
def firstIx (f : Query → Bool) (ps : List Query) : Int := if ps.any f = true then (ps.findIdx f : Nat) else -1
theorem firstIx_any (f : Query → Bool) (ps : List Query) : (decide (0 ≤ firstIx f ps)) = ps.any f := by
  unfold firstIx
  cases h : ps.any f with
  | true => simp
  | false => simp
theorem firstIx_at {f : Query → Bool} {ps : List Query} {i : Nat} {x : Query} (hI : ∀ y ∈ ps.take i, f y = false) (hx : ps[i]? = some x) (hf : f x = true) : firstIx f ps = i := by
  have := (look_at (p := f) hI hx hf).2
  rw [firstIx, if_pos this.2, this.1]
theorem firstIx_no {f : Query → Bool} {ps : List Query} (hI : ∀ y ∈ ps, f y = false) : firstIx f ps = -1 := by
  have := (look_no (p := f) hI).2
  rw [firstIx, if_neg (by rw [this]; simp)]
abbrev cap1 (l : List Field) (d : Doc) : List PV := [.pro [.sl (l.map Field.pv)], .pro [.str d.key, .sl (d.cells.map Cell.pv)]]
theorem tagDoc_len (l : List Field) (d : Doc) (n : Str) (hds : DSm d) : (tagDoc l d n).length ≤ 1099511627776 := by
  by_cases hc : docOk l d = true ∧ (docText d n).2 = true ∧ (fieldOf l n).kind = 3
  · rw [tagDoc_yes hc.1 hc.2.1 hc.2.2]
    unfold tagsS
    split
    · have h3 := foldS_len (splitB 44 (docText d n).1) []
      have h4 := (splitB_len 44 (docText d n).1).1
      have h5 := List.count_le_length (l := (docText d n).1) (a := 44)
      have h6 := docText_len d n hds
      simp only [List.length_nil] at h3
      show ((splitB 44 (docText d n).1).foldl addS []).length ≤ 1099511627776
      omega
    · show 0 ≤ 1099511627776
      omega
  · rw [tagDoc_no hc]; simp
theorem okQ_node {dp : Nat} {q : Query} (h : okQ dp q = true) : ∃ e, dp = e + 1 ∧ nodeOk q = true ∧ ∀ x ∈ q.parts, okQ e x = true := by
  cases dp with
  | zero => cases h
  | succ e =>
    simp only [okQ, Bool.and_eq_true, List.all_eq_true] at h
    exact ⟨e, rfl, h.1, h.2⟩
theorem node_kinds {q : Query} (h : nodeOk q = true) : (1 ≤ q.kind ∧ q.kind ≤ 6 ∧ q.parts = []) ∨ ((q.kind = 7 ∨ q.kind = 8) ∧ q.parts ≠ []) ∨ (q.kind = 9 ∧ ∃ x, q.parts = [x]) := by
  unfold nodeOk at h
  split at h
  · rename_i hp
    left
    refine ⟨?_, ?_, hp⟩ <;> (unfold leafOk at h; grind)
  · rename_i hp
    simp only [Bool.and_eq_true, Bool.or_eq_true, decide_eq_true_eq] at h
    obtain ⟨⟨⟨⟨h1, _⟩, _⟩, _⟩, _⟩ := h
    rcases h1 with ⟨h1, _⟩ | ⟨h1, h2⟩
    · exact .inr (.inl ⟨h1, hp⟩)
    · exact .inr (.inr ⟨h1, by
        cases hq : q.parts with
        | nil => rw [hq] at h2; cases h2
        | cons x r => rw [hq] at h2; cases r with
          | nil => exact ⟨x, rfl⟩
          | cons y r => simp at h2⟩)
theorem any_not (f : Query → Bool) (ps : List Query) : (!ps.any fun x => !f x) = ps.all f := by
  induction ps with
  | nil => rfl
  | cons x ps ih => rw [List.any_cons, List.all_cons, ← ih]; cases f x <;> simp
/-- Whether a document is what a question looks for. -/
def meetsD (l : List Field) (d : Doc) (q : Query) : Bool := docOk l d && (fieldsOk l && okQ 4 q && fitsI l q) && meetsM l d q
def begP (p t : Str) : Bool := decide (t ≠ []) && begM p t
def cellM (l : List Field) (q : Query) (c : Cell) : Bool := looksAt l q c && decide (0 < timesN q c.text)
theorem cellW_pos {l : List Field} {q : Query} {c : Cell} (h : fieldsOk l = true) : 0 < cellW l q c ↔ cellM l q c = true := by
  unfold cellW cellM
  split
  · rename_i hk
    simp only [hk, Bool.true_and, decide_eq_true_eq]
    simp only [looksAt, Bool.and_eq_true, decide_eq_true_eq] at hk
    obtain ⟨w1, w2⟩ := weight_in h hk.1
    constructor
    · intro hp
      exact Nat.pos_of_mul_pos_right hp
    · intro hp
      exact Nat.mul_pos hp (by omega)
  · rename_i hk
    rw [Bool.not_eq_true] at hk
    simp [hk]
theorem sumW_pos {l : List Field} {q : Query} (h : fieldsOk l = true) : ∀ cs : List Cell, decide (0 < (cs.map (cellW l q)).sum) = cs.any (cellM l q)
  | [] => rfl
  | c :: cs => by
    have ih := sumW_pos (q := q) h cs
    have hc := cellW_pos (q := q) (c := c) h
    rw [List.any_cons, ← ih, List.map_cons, List.sum_cons, Bool.eq_iff_iff, Bool.or_eq_true, decide_eq_true_iff, decide_eq_true_iff, ← hc]
    omega
end Go.Proofs.YtjagjfjhinlgiaaGreatDoor.PVE
