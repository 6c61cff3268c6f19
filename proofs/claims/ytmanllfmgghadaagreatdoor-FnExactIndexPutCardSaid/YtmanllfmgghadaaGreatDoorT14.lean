/- Documents: the program's functions. -/
import Derived.Test.YtmanllfmgghadaaGreatDoorTA
import Derived.Test.YtmanllfmgghadaaGreatDoorN1
set_option linter.unusedVariables false
set_option linter.unusedSimpArgs false
set_option maxRecDepth 100000
namespace Go.Proofs.YtmanllfmgghadaaGreatDoor.PVE
open PV
structure Cell where
  name : Str
  text : Str
  deriving Inhabited
def Cell.pv (c : Cell) : PV := .agg [.str c.name, .str c.text]
instance : Enc Cell.pv 2 := ⟨fun _ => by simp only [Cell.pv, PV.free, PV.freeL, and_self], fun _ => by simp only [Cell.pv, PV.okr, PV.okrL, and_self], fun _ => rfl⟩
instance : EncF Cell.pv := ⟨fun _ => rfl⟩
instance : EncN Cell.pv := ⟨fun _ => by simp only [Cell.pv, PV.noR, PV.noRL, and_self]⟩
instance : EncS Cell.pv Cell.pv := ⟨fun _ => rfl⟩
@[go_sem] theorem Cell.cells (f : Cell) : f.pv.cells = [.str f.name, .str f.text] := rfl
@[go_sem] theorem Cell.snoc (l : List Cell) (a b : Str) : l.map Cell.pv ++ [.agg [.str a, .str b]] = (l ++ [Cell.mk a b]).map Cell.pv := by simp [Cell.pv]
@[go_sem] theorem Cell.re (f : Cell) (off : Nat) (cs : List PV) : f.pv.reElem off cs = .agg (PV.putCells [.str f.name, .str f.text] off cs) := rfl
@[go_sem] theorem Cell.setf (l : List Cell) (i : Nat) (a b : Str) : (l.map Cell.pv).set i (.agg [.str a, .str b]) = (l.set i (Cell.mk a b)).map Cell.pv := by rw [List.map_set]; rfl
structure Doc where
  key : Str
  cells : List Cell
  deriving Inhabited
def Doc.pv (d : Doc) : PV := .agg [.str d.key, .sl (d.cells.map Cell.pv)]
def Doc.pvo (d : Doc) : PV := .agg [.str d.key, .slo 2 (d.cells.map Cell.pv)]
def CSm (l : List Cell) : Prop := l.length ≤ 1099511627776 ∧ ∀ c ∈ l, c.name.length ≤ 1099511627776 ∧ c.text.length ≤ 549755813888
def DSm (d : Doc) : Prop := d.key.length ≤ 1099511627776 ∧ CSm d.cells
def charOk (b : UInt8) : Bool := inB b.toNat 32 126
def textOk (s : Str) : Bool := s.all charOk && decide (s.length ≤ 60)
theorem byteI (b : UInt8) : IntKind.i64.wrap (b.toNat : Int) = (b.toNat : Int) := by
  have := b.toNat_lt
  exact wrap_in (by omega) (by omega)
@[go_sem] theorem plain_R (s : Str) (hs : s.length ≤ 1099511627776) : R S0 241 [.str s, .int .i64 60] = some ⟨[none, none], .bool (textOk s)⟩ := by
  refine go241 rfl ?_; simp only [go_sem, ↓reduceIte, Nat.reduceAdd, Nat.reduceSub, Nat.reduceEqDiff, Nat.reduceLT, Nat.reduceLeDiff, Nat.reduceMul, Int.reduceNeg, Int.reduceToNat, Int.reduceEq, Int.reduceLT, Int.reduceLE, reduceCtorEq, Tryz.f241]
  refine ends_for s.length (by omega) (fun i _ => mkSt [(0, .str s), (1, .int .i64 60), (7, .int .i64 s.length), (8, .int .i64 i)] []) (fun i _ => (s.drop i).all charOk = s.all charOk) 0 () (by omega) rfl ?_ ?_
  · intro i _ hi hI hw ih
    rw [drop_getD hi 0, List.all_cons] at hI
    simp only [go_sem, ↓reduceIte, Nat.reduceAdd, Nat.reduceSub, Nat.reduceEqDiff, Nat.reduceLT, Nat.reduceLeDiff, Nat.reduceMul, Int.reduceNeg, Int.reduceToNat, Int.reduceEq, Int.reduceLT, Int.reduceLE, reduceCtorEq, hi, hw, byteI]
    have ih := ih ()
    generalize Ends S0 _ _ _ = Q at ih ⊢
    grind [textOk, charOk]
  · intro _ hI
    rw [List.drop_length, List.all_nil] at hI
    simp only [go_sem, ↓reduceIte, Nat.reduceAdd, Nat.reduceSub, Nat.reduceEqDiff, Nat.reduceLT, Nat.reduceLeDiff, Nat.reduceMul, Int.reduceNeg, Int.reduceToNat, Int.reduceEq, Int.reduceLT, Int.reduceLE, reduceCtorEq]
    rw [textOk, ← hI, Bool.true_and]
    simp; omega
@[go_sem] theorem textOk_R (s : Str) (hs : s.length ≤ 1099511627776) : R S0 200 [.str s] = some ⟨[none], .bool (textOk s)⟩ := by
  refine go200 rfl ?_; simp only [go_sem, ↓reduceIte, Nat.reduceAdd, Nat.reduceSub, Nat.reduceEqDiff, Nat.reduceLT, Nat.reduceLeDiff, Nat.reduceMul, Int.reduceNeg, Int.reduceToNat, Int.reduceEq, Int.reduceLT, Int.reduceLE, reduceCtorEq, Tryz.f200, hs]
def formL : Option Str → List Cell → Bool
  | _, [] => true
  | p, c :: l => nameOk c.name && textOk c.text && (match p with
    | none => true
    | some n => Go.Op.bytesLess n c.name) && formL (some c.name) l
def lastN (l : List Cell) (i : Nat) : Option Str := match i with
  | 0 => none
  | i + 1 => some (l.getD i default).name
def docForm (d : Doc) : Bool := formL none d.cells && nameOk d.key && decide (d.cells.length ≤ 4)
@[go_sem] theorem wellFormed_R (d : Doc) (hd : DSm d) : R S0 147 [.agg [.str d.key, .sl (d.cells.map Cell.pv)]] = some ⟨[none], .bool (docForm d)⟩ := by
  obtain ⟨hk, hl, hc⟩ := hd
  refine go147 rfl ?_; simp only [go_sem, ↓reduceIte, Nat.reduceAdd, Nat.reduceSub, Nat.reduceEqDiff, Nat.reduceLT, Nat.reduceLeDiff, Nat.reduceMul, Int.reduceNeg, Int.reduceToNat, Int.reduceEq, Int.reduceLT, Int.reduceLE, reduceCtorEq, Tryz.f147]
  refine ends_for d.cells.length (by omega) (fun i _ => mkSt [(1, .addr 0 0 0), (6, .sl (d.cells.map Cell.pv)), (7, .int .i64 d.cells.length), (8, .int .i64 i)] [.pto [.str d.key, .sl (d.cells.map Cell.pv)]]) (fun i _ => formL (lastN d.cells i) (d.cells.drop i) = formL none d.cells) 0 () (by omega) rfl ?_ ?_
  · intro i _ hi hI hw ih
    obtain ⟨c, hx, hg, hdr⟩ := drop_get hi default
    obtain ⟨h1, h2'⟩ := hc c (List.mem_of_getElem? hx)
    have h2 : c.text.length ≤ 1099511627776 := by omega
    rw [hdr] at hI
    have hln : lastN d.cells (i + 1) = some c.name := by rw [lastN, hg]
    have ih := ih ()
    rw [hln] at ih
    cases i with
    | zero =>
      simp only [lastN, formL] at hI
      rw [show ((0 : Nat) : Int) = 0 from rfl] at *
      simp only [go_sem, ↓reduceIte, Nat.reduceAdd, Nat.reduceSub, Nat.reduceEqDiff, Nat.reduceLT, Nat.reduceLeDiff, Nat.reduceMul, Int.reduceNeg, Int.reduceToNat, Int.reduceEq, Int.reduceLT, Int.reduceLE, reduceCtorEq, hi, hw, hg, h1, h2]
      generalize Ends S0 _ _ _ = Q at ih ⊢
      grind [docForm]
    | succ j =>
      simp only [lastN, formL] at hI
      have hz : (0 : Int) < ((j + 1 : Nat) : Int) := by omega
      have hw1 : IntKind.i64.wrap (((j + 1 : Nat) : Int) - 1) = (j : Int) := by rw [wrap_in (by omega) (by omega)]; omega
      have hj : j < d.cells.length := by omega
      simp only [go_sem, ↓reduceIte, Nat.reduceAdd, Nat.reduceSub, Nat.reduceEqDiff, Nat.reduceLT, Nat.reduceLeDiff, Nat.reduceMul, Int.reduceNeg, Int.reduceToNat, Int.reduceEq, Int.reduceLT, Int.reduceLE, reduceCtorEq, hi, hw, hg, h1, h2, hz, hw1, hj]
      generalize Ends S0 _ _ _ = Q at ih ⊢
      grind [docForm]
  · intro _ hI
    rw [List.drop_length, formL] at hI
    simp only [go_sem, ↓reduceIte, Nat.reduceAdd, Nat.reduceSub, Nat.reduceEqDiff, Nat.reduceLT, Nat.reduceLeDiff, Nat.reduceMul, Int.reduceNeg, Int.reduceToNat, Int.reduceEq, Int.reduceLT, Int.reduceLE, reduceCtorEq, hk]
    rw [docForm, ← hI]
    cases nameOk d.key <;> simp; omega
def tagsOk (s : Str) : Bool := (splitB 44 s).all nameOk && decide ((splitB 44 s).length ≤ 4)
theorem splitB_len (c : UInt8) : ∀ s : Str, (splitB c s).length = s.count c + 1 ∧ ∀ w ∈ splitB c s, w.length ≤ s.length
  | [] => ⟨rfl, by simp [splitB]⟩
  | b :: s => by
    obtain ⟨h1, h2⟩ := splitB_len c s
    cases hs : splitB c s with
    | nil => rw [hs] at h1; simp at h1
    | cons w l =>
      rw [hs] at h1 h2
      by_cases hb : b = c
      · subst hb
        simp only [splitB, hs, if_true]
        refine ⟨by simp at h1 ⊢; omega, fun x hx => ?_⟩
        rcases List.mem_cons.1 hx with rfl | hx
        · simp
        · have := h2 x hx; simp; omega
      · simp only [splitB, hs, hb, if_false]
        refine ⟨by simp [List.count_cons, hb] at h1 ⊢; omega, fun x hx => ?_⟩
        rcases List.mem_cons.1 hx with rfl | hx
        · have := h2 w (by simp); simp; omega
        · have := h2 x (by simp [hx]); simp; omega
@[go_sem] theorem tagsOk_R (s : Str) (hs : s.length ≤ 1099511627776) : R S0 150 [.str s] = some ⟨[none], .bool (tagsOk s)⟩ := by
  obtain ⟨h1, h2⟩ := splitB_len 44 s
  have h3 := List.count_le_length (l := s) (a := 44)
  refine go150 rfl ?_; simp only [go_sem, ↓reduceIte, Nat.reduceAdd, Nat.reduceSub, Nat.reduceEqDiff, Nat.reduceLT, Nat.reduceLeDiff, Nat.reduceMul, Int.reduceNeg, Int.reduceToNat, Int.reduceEq, Int.reduceLT, Int.reduceLE, reduceCtorEq, Tryz.f150, hs]
  refine ends_for (splitB 44 s).length (by omega) (fun i _ => mkSt [(3, .sl ((splitB 44 s).map .str)), (8, .sl ((splitB 44 s).map .str)), (9, .int .i64 (splitB 44 s).length), (10, .int .i64 i)] []) (fun i _ => ((splitB 44 s).drop i).all nameOk = (splitB 44 s).all nameOk) 0 () (by omega) rfl ?_ ?_
  · intro i _ hi hI hw ih
    obtain ⟨c, hx, hg, hdr⟩ := drop_get hi default
    have hcl := h2 c (List.mem_of_getElem? hx)
    have hcb : c.length ≤ 1099511627776 := by omega
    rw [hdr, List.all_cons] at hI
    simp only [go_sem, ↓reduceIte, Nat.reduceAdd, Nat.reduceSub, Nat.reduceEqDiff, Nat.reduceLT, Nat.reduceLeDiff, Nat.reduceMul, Int.reduceNeg, Int.reduceToNat, Int.reduceEq, Int.reduceLT, Int.reduceLE, reduceCtorEq, hi, hw, hg, hcb]
    have ih := ih ()
    generalize Ends S0 _ _ _ = Q at ih ⊢
    grind [tagsOk]
  · intro _ hI
    rw [List.drop_length, List.all_nil] at hI
    simp only [go_sem, ↓reduceIte, Nat.reduceAdd, Nat.reduceSub, Nat.reduceEqDiff, Nat.reduceLT, Nat.reduceLeDiff, Nat.reduceMul, Int.reduceNeg, Int.reduceToNat, Int.reduceEq, Int.reduceLT, Int.reduceLE, reduceCtorEq]
    rw [tagsOk, ← hI, Bool.true_and]
    simp; omega
@[go_sem] theorem number_R (s : Str) (hs : s.length ≤ 1099511627776) : R S0 149 [.str s] = some ⟨[none], .tup [.int .i64 (numI s).1, .bool (numI s).2]⟩ := by
  refine R_lib (Eq.trans (b := libNumber [.str s]) (by kernel_rfl) ?_)
  rw [libNumber, if_pos hs]
def cellOk (l : List Field) (c : Cell) : Bool := let k := (fieldOf l c.name).kind; decide (k = 1) || (decide (k = 2) && (numI c.text).2) || (decide (k = 3) && tagsOk c.text)
def docOk (l : List Field) (d : Doc) : Bool := fieldsOk l && docForm d && d.cells.all (cellOk l)
@[go_sem] theorem docOk_R (l : List Field) (d : Doc) (hl : FSm l) (hd : DSm d) : R S0 94 [.sl (l.map Field.pv), .agg [.str d.key, .sl (d.cells.map Cell.pv)]] = some ⟨[none, none], .bool (docOk l d)⟩ := by
  obtain ⟨hk, hcl, hc⟩ := id hd
  obtain ⟨hll, _⟩ := id hl
  cases h1 : fieldsOk l with
  | false =>
    refine go94 rfl ?_; simp only [go_sem, ↓reduceIte, Nat.reduceAdd, Nat.reduceSub, Nat.reduceEqDiff, Nat.reduceLT, Nat.reduceLeDiff, Nat.reduceMul, Int.reduceNeg, Int.reduceToNat, Int.reduceEq, Int.reduceLT, Int.reduceLE, reduceCtorEq, Tryz.f94, hl, h1]
    simp [docOk, h1]
  | true =>
  cases h2 : docForm d with
  | false =>
    refine go94 rfl ?_; simp only [go_sem, ↓reduceIte, Nat.reduceAdd, Nat.reduceSub, Nat.reduceEqDiff, Nat.reduceLT, Nat.reduceLeDiff, Nat.reduceMul, Int.reduceNeg, Int.reduceToNat, Int.reduceEq, Int.reduceLT, Int.reduceLE, reduceCtorEq, Tryz.f94, hl, hd, h1, h2]
    simp [docOk, h2]
  | true =>
  refine go94 rfl ?_; simp only [go_sem, ↓reduceIte, Nat.reduceAdd, Nat.reduceSub, Nat.reduceEqDiff, Nat.reduceLT, Nat.reduceLeDiff, Nat.reduceMul, Int.reduceNeg, Int.reduceToNat, Int.reduceEq, Int.reduceLT, Int.reduceLE, reduceCtorEq, Tryz.f94, hl, hd, h1, h2]
  refine ends_for d.cells.length (by omega) (fun i _ => mkSt [(0, .sl (l.map Field.pv)), (18, .sl (d.cells.map Cell.pv)), (19, .int .i64 d.cells.length), (20, .int .i64 i)] []) (fun i _ => (d.cells.drop i).all (cellOk l) = d.cells.all (cellOk l)) 0 () (by omega) rfl ?_ ?_
  · intro i _ hi hI hw ih
    obtain ⟨c, hx, hg, hdr⟩ := drop_get hi default
    obtain ⟨h3, h4'⟩ := hc c (List.mem_of_getElem? hx)
    have h4 : c.text.length ≤ 1099511627776 := by omega
    rw [hdr, List.all_cons] at hI
    have ih := ih ()
    have hfin : docOk l d = d.cells.all (cellOk l) := by simp [docOk, h1, h2]
    have hco : cellOk l c = (decide ((fieldOf l c.name).kind = 1) || (decide ((fieldOf l c.name).kind = 2) && (numI c.text).2) || (decide ((fieldOf l c.name).kind = 3) && tagsOk c.text)) := rfl
    by_cases k1 : (fieldOf l c.name).kind = 1
    · simp only [go_sem, ↓reduceIte, Nat.reduceAdd, Nat.reduceSub, Nat.reduceEqDiff, Nat.reduceLT, Nat.reduceLeDiff, Nat.reduceMul, Int.reduceNeg, Int.reduceToNat, Int.reduceEq, Int.reduceLT, Int.reduceLE, reduceCtorEq, hi, hw, hg, h3, h4, hll, k1]
      exact ih (by rw [← hI, hco]; simp [k1])
    by_cases k2 : (fieldOf l c.name).kind = 2
    · cases hn : (numI c.text).2 with
      | true =>
        simp only [go_sem, ↓reduceIte, Nat.reduceAdd, Nat.reduceSub, Nat.reduceEqDiff, Nat.reduceLT, Nat.reduceLeDiff, Nat.reduceMul, Int.reduceNeg, Int.reduceToNat, Int.reduceEq, Int.reduceLT, Int.reduceLE, reduceCtorEq, hi, hw, hg, h3, h4, hll, k1, k2, hn]
        exact ih (by rw [← hI, hco]; simp [k2, hn])
      | false =>
        simp only [go_sem, ↓reduceIte, Nat.reduceAdd, Nat.reduceSub, Nat.reduceEqDiff, Nat.reduceLT, Nat.reduceLeDiff, Nat.reduceMul, Int.reduceNeg, Int.reduceToNat, Int.reduceEq, Int.reduceLT, Int.reduceLE, reduceCtorEq, hi, hw, hg, h3, h4, hll, k1, k2, hn]
        rw [hfin, ← hI, hco]; simp [k2, hn]
    by_cases k3 : (fieldOf l c.name).kind = 3
    · cases hn : tagsOk c.text with
      | true =>
        simp only [go_sem, ↓reduceIte, Nat.reduceAdd, Nat.reduceSub, Nat.reduceEqDiff, Nat.reduceLT, Nat.reduceLeDiff, Nat.reduceMul, Int.reduceNeg, Int.reduceToNat, Int.reduceEq, Int.reduceLT, Int.reduceLE, reduceCtorEq, hi, hw, hg, h3, h4, hll, k1, k2, k3, hn]
        exact ih (by rw [← hI, hco]; simp [k3, hn])
      | false =>
        simp only [go_sem, ↓reduceIte, Nat.reduceAdd, Nat.reduceSub, Nat.reduceEqDiff, Nat.reduceLT, Nat.reduceLeDiff, Nat.reduceMul, Int.reduceNeg, Int.reduceToNat, Int.reduceEq, Int.reduceLT, Int.reduceLE, reduceCtorEq, hi, hw, hg, h3, h4, hll, k1, k2, k3, hn]
        rw [hfin, ← hI, hco]; simp [k3, hn]
    · simp only [go_sem, ↓reduceIte, Nat.reduceAdd, Nat.reduceSub, Nat.reduceEqDiff, Nat.reduceLT, Nat.reduceLeDiff, Nat.reduceMul, Int.reduceNeg, Int.reduceToNat, Int.reduceEq, Int.reduceLT, Int.reduceLE, reduceCtorEq, hi, hw, hg, h3, h4, hll, k1, k2, k3]
      rw [hfin, ← hI, hco]; simp [k1, k2, k3]
  · intro _ hI
    rw [List.drop_length, List.all_nil] at hI
    simp only [go_sem, ↓reduceIte, Nat.reduceAdd, Nat.reduceSub, Nat.reduceEqDiff, Nat.reduceLT, Nat.reduceLeDiff, Nat.reduceMul, Int.reduceNeg, Int.reduceToNat, Int.reduceEq, Int.reduceLT, Int.reduceLE, reduceCtorEq]
    simp [docOk, h1, h2, ← hI]
def docText (d : Doc) (n : Str) : Str × Bool := match d.cells.find? fun c => c.name = n with
  | some c => (c.text, true)
  | none => ([], false)
def cellT (l : List Field) (d : Doc) (n : Str) (k : Int) : Str × Bool := if (fieldOf l n).kind = k then docText d n else ([], false)
def numD (l : List Field) (d : Doc) (n : Str) : Int × Bool := ((numI (cellT l d n 2).1).1, (cellT l d n 2).2)
def tagsD (l : List Field) (d : Doc) (n : Str) : List Str := if (cellT l d n 3).2 = true then uniq (splitB 44 (cellT l d n 3).1) else []
def numDoc (l : List Field) (d : Doc) (n : Str) : Int × Bool := if docOk l d = true then numD l d n else (0, false)
def tagDoc (l : List Field) (d : Doc) (n : Str) : List Str := if docOk l d = true then tagsD l d n else []
end Go.Proofs.YtmanllfmgghadaaGreatDoor.PVE
