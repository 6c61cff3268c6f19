/- What a question asks of a document: the program's side. -/
import Derived.Test.YtmanllfmgghadaaGreatDoorT15
set_option linter.unusedVariables false
set_option linter.unusedSimpArgs false
set_option maxRecDepth 100000
namespace Go.Proofs.YtmanllfmgghadaaGreatDoor.PVE
open PV Query
def begM (p s : Str) : Bool := decide (p.length ≤ s.length) && decide (s.take p.length = p)
def runAt (all want : List Str) (i : Nat) : Bool := decide ((all.drop i).take want.length = want)
def cntTo (f : Nat → Bool) : Nat → Nat
  | 0 => 0
  | n + 1 => cntTo f n + if f n = true then 1 else 0
def timesN (q : Query) (s : Str) : Nat :=
  if q.kind = 4 then (terms s).countP (fun t => decide (t ≠ []) && begM q.text t)
  else cntTo (runAt (terms s) (terms q.text)) ((terms s).length + 1 - (terms q.text).length)
def looksAt (l : List Field) (q : Query) (c : Cell) : Bool := decide ((fieldOf l c.name).kind = 1) && (decide (q.field = []) || decide (q.field = c.name))
def cellW (l : List Field) (q : Query) (c : Cell) : Nat := if looksAt l q c = true then timesN q c.text * (fieldOf l c.name).weight.toNat else 0
def weightN (l : List Field) (d : Doc) (q : Query) : Nat := (d.cells.map (cellW l q)).sum
theorem docOk_parts {l : List Field} {d : Doc} (h : docOk l d = true) : fieldsOk l = true ∧ d.cells.length ≤ 4 ∧ ∀ c ∈ d.cells, c.text.length ≤ 60 ∧ c.name.length ≤ 8 := by
  simp only [docOk, Bool.and_eq_true, docForm, decide_eq_true_eq] at h
  obtain ⟨⟨h1, ⟨h2, h3⟩, h4⟩, h5⟩ := h
  refine ⟨h1, h4, fun c hc => ?_⟩
  obtain ⟨k1, k2⟩ := formL_text _ _ h2 c hc
  simp only [textOk, Bool.and_eq_true, decide_eq_true_eq] at k1
  exact ⟨k1.2, nameOk_len k2⟩
def leafM (l : List Field) (d : Doc) (q : Query) : Bool :=
  if q.kind = 1 then true
  else if q.kind = 5 then (numDoc l d q.field).2 && inB (numDoc l d q.field).1 q.low q.high
  else if q.kind = 6 then decide (q.text ∈ tagDoc l d q.field)
  else decide (0 < weightN l d q)
mutual
def meetsM (l : List Field) (d : Doc) : Query → Bool | .mk k f t lo hi p => if k = 7 then meetsAll l d p else if k = 8 then meetsAny l d p else if k = 9 then meetsNot l d p else leafM l d (.mk k f t lo hi p)
def meetsAll (l : List Field) (d : Doc) : List Query → Bool
  | [] => true
  | q :: qs => meetsM l d q && meetsAll l d qs
def meetsAny (l : List Field) (d : Doc) : List Query → Bool
  | [] => false
  | q :: qs => meetsM l d q || meetsAny l d qs
def meetsNot (l : List Field) (d : Doc) : List Query → Bool
  | [] => true
  | q :: _ => !meetsM l d q
end
end Go.Proofs.YtmanllfmgghadaaGreatDoor.PVE
