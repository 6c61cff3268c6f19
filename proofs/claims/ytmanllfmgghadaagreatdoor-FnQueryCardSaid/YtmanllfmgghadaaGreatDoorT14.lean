/- Documents: the program's functions. -/
import Derived.Test.YtmanllfmgghadaaGreatDoorT8
import Derived.Test.YtmanllfmgghadaaGreatDoorN1
import Derived.Test.YtmanllfmgghadaaGreatDoorT9
set_option linter.unusedVariables false
set_option linter.unusedSimpArgs false
set_option maxRecDepth 100000
namespace Go.Proofs.YtmanllfmgghadaaGreatDoor.PVE
open PV
structure Cell where
  name : Str
  text : Str
  deriving Inhabited
def Cell.pv (c : Cell) : PV := .agg [.str c.name, .str c.text]
instance : Enc Cell.pv 2 := ⟨fun _ => by simp only [Cell.pv, PV.free, PV.freeL, and_self], fun _ => by simp only [Cell.pv, PV.okr, PV.okrL, and_self], fun _ => rfl⟩
instance : EncF Cell.pv := ⟨fun _ => rfl⟩
instance : EncN Cell.pv := ⟨fun _ => by simp only [Cell.pv, PV.noR, PV.noRL, and_self]⟩
instance : EncS Cell.pv Cell.pv := ⟨fun _ => rfl⟩
@[go_sem] theorem Cell.cells (f : Cell) : f.pv.cells = [.str f.name, .str f.text] := rfl
@[go_sem] theorem Cell.snoc (l : List Cell) (a b : Str) : l.map Cell.pv ++ [.agg [.str a, .str b]] = (l ++ [Cell.mk a b]).map Cell.pv := by simp [Cell.pv]
@[go_sem] theorem Cell.re (f : Cell) (off : Nat) (cs : List PV) : f.pv.reElem off cs = .agg (PV.putCells [.str f.name, .str f.text] off cs) := rfl
@[go_sem] theorem Cell.setf (l : List Cell) (i : Nat) (a b : Str) : (l.map Cell.pv).set i (.agg [.str a, .str b]) = (l.set i (Cell.mk a b)).map Cell.pv := by rw [List.map_set]; rfl
structure Doc where
  key : Str
  cells : List Cell
  deriving Inhabited
def Doc.pv (d : Doc) : PV := .agg [.str d.key, .sl (d.cells.map Cell.pv)]
def Doc.pvo (d : Doc) : PV := .agg [.str d.key, .slo 2 (d.cells.map Cell.pv)]
def charOk (b : UInt8) : Bool := inB b.toNat 32 126
def textOk (s : Str) : Bool := s.all charOk && decide (s.length ≤ 60)
def formL : Option Str → List Cell → Bool
  | _, [] => true
  | p, c :: l => nameOk c.name && textOk c.text && (match p with
    | none => true
    | some n => Go.Op.bytesLess n c.name) && formL (some c.name) l
def docForm (d : Doc) : Bool := formL none d.cells && nameOk d.key && decide (d.cells.length ≤ 4)
def tagsOk (s : Str) : Bool := (splitB 44 s).all nameOk && decide ((splitB 44 s).length ≤ 4)
@[go_sem] theorem number_R (s : Str) (hs : s.length ≤ 1099511627776) : R S0 149 [.str s] = some ⟨[none], .tup [.int .i64 (numI s).1, .bool (numI s).2]⟩ := by
  refine R_lib (Eq.trans (b := libNumber [.str s]) (by kernel_rfl) ?_)
  rw [libNumber, if_pos hs]
def cellOk (l : List Field) (c : Cell) : Bool := let k := (fieldOf l c.name).kind; decide (k = 1) || (decide (k = 2) && (numI c.text).2) || (decide (k = 3) && tagsOk c.text)
def docOk (l : List Field) (d : Doc) : Bool := fieldsOk l && docForm d && d.cells.all (cellOk l)
def docText (d : Doc) (n : Str) : Str × Bool := match d.cells.find? fun c => c.name = n with
  | some c => (c.text, true)
  | none => ([], false)
def cellT (l : List Field) (d : Doc) (n : Str) (k : Int) : Str × Bool := if (fieldOf l n).kind = k then docText d n else ([], false)
def numD (l : List Field) (d : Doc) (n : Str) : Int × Bool := ((numI (cellT l d n 2).1).1, (cellT l d n 2).2)
def tagsD (l : List Field) (d : Doc) (n : Str) : List Str := if (cellT l d n 3).2 = true then uniq (splitB 44 (cellT l d n 3).1) else []
def numDoc (l : List Field) (d : Doc) (n : Str) : Int × Bool := if docOk l d = true then numD l d n else (0, false)
def tagDoc (l : List Field) (d : Doc) (n : Str) : List Str := if docOk l d = true then tagsD l d n else []
end Go.Proofs.YtmanllfmgghadaaGreatDoor.PVE
