/- What a question asks of a document: the program's side. -/
import Derived.Test.YtmanllfmgghadaaGreatDoorT15
set_option linter.unusedVariables false
set_option linter.unusedSimpArgs false
set_option maxRecDepth 100000
namespace Go.Proofs.YtmanllfmgghadaaGreatDoor.PVE
open PV Query
def begM (p s : Str) : Bool := decide (p.length ≤ s.length) && decide (s.take p.length = p)
@[go_sem] theorem slitePrefix_R (s p : Str) : R S0 207 [.str s, .str p] = some ⟨[none, none], .bool (begM p s)⟩ := by
  have e1 : cut s 0 (p.length : Int) = s.take p.length := cut_take s p.length
  by_cases h : p.length ≤ s.length
  · have h2 : (p.length : Int) ≤ s.length := by omega
    have e : begM p s = decide (s.take p.length = p) := by rw [begM, decide_eq_true h, Bool.true_and]
    refine go207 rfl ?_; simp only [go_sem, ↓reduceIte, Nat.reduceAdd, Nat.reduceSub, Nat.reduceEqDiff, Nat.reduceLT, Nat.reduceLeDiff, Nat.reduceMul, Int.reduceNeg, Int.reduceToNat, Int.reduceEq, Int.reduceLT, Int.reduceLE, reduceCtorEq, Tryz.f207, h2, e1, e]
  · have h2 : ¬ (p.length : Int) ≤ s.length := by omega
    have e : begM p s = false := by rw [begM, decide_eq_false h, Bool.false_and]
    refine go207 rfl ?_; simp only [go_sem, ↓reduceIte, Nat.reduceAdd, Nat.reduceSub, Nat.reduceEqDiff, Nat.reduceLT, Nat.reduceLeDiff, Nat.reduceMul, Int.reduceNeg, Int.reduceToNat, Int.reduceEq, Int.reduceLT, Int.reduceLE, reduceCtorEq, Tryz.f207, h2, e]
@[go_sem] theorem hasPrefix_R (s p : Str) : R S0 160 [.str s, .str p] = some ⟨[none, none], .bool (begM p s)⟩ := by
  refine go160 rfl ?_; simp only [go_sem, ↓reduceIte, Nat.reduceAdd, Nat.reduceSub, Nat.reduceEqDiff, Nat.reduceLT, Nat.reduceLeDiff, Nat.reduceMul, Int.reduceNeg, Int.reduceToNat, Int.reduceEq, Int.reduceLT, Int.reduceLE, reduceCtorEq, Tryz.f160]
def runAt (all want : List Str) (i : Nat) : Bool := decide ((all.drop i).take want.length = want)
def cntTo (f : Nat → Bool) : Nat → Nat
  | 0 => 0
  | n + 1 => cntTo f n + if f n = true then 1 else 0
def timesN (q : Query) (s : Str) : Nat :=
  if q.kind = 4 then (terms s).countP (fun t => decide (t ≠ []) && begM q.text t)
  else cntTo (runAt (terms s) (terms q.text)) ((terms s).length + 1 - (terms q.text).length)
def looksAt (l : List Field) (q : Query) (c : Cell) : Bool := decide ((fieldOf l c.name).kind = 1) && (decide (q.field = []) || decide (q.field = c.name))
def cellW (l : List Field) (q : Query) (c : Cell) : Nat := if looksAt l q c = true then timesN q c.text * (fieldOf l c.name).weight.toNat else 0
def weightN (l : List Field) (d : Doc) (q : Query) : Nat := (d.cells.map (cellW l q)).sum
def leafM (l : List Field) (d : Doc) (q : Query) : Bool :=
  if q.kind = 1 then true
  else if q.kind = 5 then (numDoc l d q.field).2 && inB (numDoc l d q.field).1 q.low q.high
  else if q.kind = 6 then decide (q.text ∈ tagDoc l d q.field)
  else decide (0 < weightN l d q)
mutual
def meetsM (l : List Field) (d : Doc) : Query → Bool | .mk k f t lo hi p => if k = 7 then meetsAll l d p else if k = 8 then meetsAny l d p else if k = 9 then meetsNot l d p else leafM l d (.mk k f t lo hi p)
def meetsAll (l : List Field) (d : Doc) : List Query → Bool
  | [] => true
  | q :: qs => meetsM l d q && meetsAll l d qs
def meetsAny (l : List Field) (d : Doc) : List Query → Bool
  | [] => false
  | q :: qs => meetsM l d q || meetsAny l d qs
def meetsNot (l : List Field) (d : Doc) : List Query → Bool
  | [] => true
  | q :: _ => !meetsM l d q
end
abbrev cap1 (l : List Field) (d : Doc) : List PV := [.pro [.sl (l.map Field.pv)], .pro [.str d.key, .sl (d.cells.map Cell.pv)]]
theorem okQ_node {dp : Nat} {q : Query} (h : okQ dp q = true) : ∃ e, dp = e + 1 ∧ nodeOk q = true ∧ ∀ x ∈ q.parts, okQ e x = true := by
  cases dp with
  | zero => cases h
  | succ e =>
    simp only [okQ, Bool.and_eq_true, List.all_eq_true] at h
    exact ⟨e, rfl, h.1, h.2⟩
@[go_sem] theorem l4Begins_R (s p : Str) : R S0 203 [.str s, .str p] = some ⟨[none, none], .bool (begM p s)⟩ := by
  have e1 : cut s 0 (p.length : Int) = s.take p.length := cut_take s p.length
  by_cases h : p.length ≤ s.length
  · have h2 : (p.length : Int) ≤ s.length := by omega
    have e : begM p s = decide (s.take p.length = p) := by rw [begM, decide_eq_true h, Bool.true_and]
    refine go203 rfl ?_; simp only [go_sem, ↓reduceIte, Nat.reduceAdd, Nat.reduceSub, Nat.reduceEqDiff, Nat.reduceLT, Nat.reduceLeDiff, Nat.reduceMul, Int.reduceNeg, Int.reduceToNat, Int.reduceEq, Int.reduceLT, Int.reduceLE, reduceCtorEq, Tryz.f203, h2, e1, e]
  · have h2 : ¬ (p.length : Int) ≤ s.length := by omega
    have e : begM p s = false := by rw [begM, decide_eq_false h, Bool.false_and]
    refine go203 rfl ?_; simp only [go_sem, ↓reduceIte, Nat.reduceAdd, Nat.reduceSub, Nat.reduceEqDiff, Nat.reduceLT, Nat.reduceLeDiff, Nat.reduceMul, Int.reduceNeg, Int.reduceToNat, Int.reduceEq, Int.reduceLT, Int.reduceLE, reduceCtorEq, Tryz.f203, h2, e]
end Go.Proofs.YtmanllfmgghadaaGreatDoor.PVE
