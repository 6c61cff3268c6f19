/- Documents: the program's functions. -/
import Derived.Test.YtjagjfjhinlgiaaT8
import Derived.Test.YtjagjfjhinlgiaaN1
import Derived.Test.YtjagjfjhinlgiaaT9
set_option linter.unusedVariables false
set_option linter.unusedSimpArgs false
set_option maxRecDepth 100000
namespace Go.Proofs.Ytjagjfjhinlgiaa.PVE
open PV
structure Cell where
  name : Str
  text : Str
  deriving Inhabited
def Cell.pv (c : Cell) : PV := .agg [.str c.name, .str c.text]
instance : Enc Cell.pv 2 := ⟨fun _ => by simp only [Cell.pv, PV.free, PV.freeL, and_self], fun _ => by simp only [Cell.pv, PV.okr, PV.okrL, and_self], fun _ => rfl⟩
instance : EncF Cell.pv := ⟨fun _ => rfl⟩
instance : EncN Cell.pv := ⟨fun _ => by simp only [Cell.pv, PV.noR, PV.noRL, and_self]⟩
instance : EncS Cell.pv Cell.pv := ⟨fun _ => rfl⟩
@[go_sem] theorem Cell.cells (f : Cell) : f.pv.cells = [.str f.name, .str f.text] := rfl
@[go_sem] theorem Cell.snoc (l : List Cell) (a b : Str) : l.map Cell.pv ++ [.agg [.str a, .str b]] = (l ++ [Cell.mk a b]).map Cell.pv := by simp [Cell.pv]
@[go_sem] theorem Cell.re (f : Cell) (off : Nat) (cs : List PV) : f.pv.reElem off cs = .agg (PV.putCells [.str f.name, .str f.text] off cs) := rfl
@[go_sem] theorem Cell.setf (l : List Cell) (i : Nat) (a b : Str) : (l.map Cell.pv).set i (.agg [.str a, .str b]) = (l.set i (Cell.mk a b)).map Cell.pv := by rw [List.map_set]; rfl
structure Doc where
  key : Str
  cells : List Cell
  deriving Inhabited
/-- A document that is only read, and one that is owned. -/
def Doc.pv (d : Doc) : PV := .agg [.str d.key, .sl (d.cells.map Cell.pv)]
def Doc.pvo (d : Doc) : PV := .agg [.str d.key, .slo 2 (d.cells.map Cell.pv)]
/-- Its texts and lists are of a size that a machine can hold. -/
def CSm (l : List Cell) : Prop := l.length ≤ 1099511627776 ∧ ∀ c ∈ l, c.name.length ≤ 1099511627776 ∧ c.text.length ≤ 549755813888
def DSm (d : Doc) : Prop := d.key.length ≤ 1099511627776 ∧ CSm d.cells
def charOk (b : UInt8) : Bool := inB b.toNat 32 126
def textOk (s : Str) : Bool := s.all charOk && decide (s.length ≤ 60)
theorem byteI (b : UInt8) : IntKind.i64.wrap (b.toNat : Int) = (b.toNat : Int) := by
  have := b.toNat_lt
  exact wrap_in (by omega) (by omega)
/-- Cells in the order of their names. -/
def formL : Option Str → List Cell → Bool
  | _, [] => true
  | p, c :: l => nameOk c.name && textOk c.text && (match p with
    | none => true
    | some n => Go.Op.bytesLess n c.name) && formL (some c.name) l
def lastN (l : List Cell) (i : Nat) : Option Str := match i with
  | 0 => none
  | i + 1 => some (l.getD i default).name
def docForm (d : Doc) : Bool := formL none d.cells && nameOk d.key && decide (d.cells.length ≤ 4)
def tagsOk (s : Str) : Bool := (splitB 44 s).all nameOk && decide ((splitB 44 s).length ≤ 4)
theorem splitB_len (c : UInt8) : ∀ s : Str, (splitB c s).length = s.count c + 1 ∧ ∀ w ∈ splitB c s, w.length ≤ s.length
  | [] => ⟨rfl, by simp [splitB]⟩
  | b :: s => by
    obtain ⟨h1, h2⟩ := splitB_len c s
    cases hs : splitB c s with
    | nil => rw [hs] at h1; simp at h1
    | cons w l =>
      rw [hs] at h1 h2
      by_cases hb : b = c
      · subst hb
        simp only [splitB, hs, if_true]
        refine ⟨by simp at h1 ⊢; omega, fun x hx => ?_⟩
        rcases List.mem_cons.1 hx with rfl | hx
        · simp
        · have := h2 x hx; simp; omega
      · simp only [splitB, hs, hb, if_false]
        refine ⟨by simp [List.count_cons, hb] at h1 ⊢; omega, fun x hx => ?_⟩
        rcases List.mem_cons.1 hx with rfl | hx
        · have := h2 w (by simp); simp; omega
        · have := h2 x (by simp [hx]); simp; omega
def cellOk (l : List Field) (c : Cell) : Bool := let k := (fieldOf l c.name).kind; decide (k = 1) || (decide (k = 2) && (numI c.text).2) || (decide (k = 3) && tagsOk c.text)
def docOk (l : List Field) (d : Doc) : Bool := fieldsOk l && docForm d && d.cells.all (cellOk l)
/-- The first cell of a name. -/
def docText (d : Doc) (n : Str) : Str × Bool := match d.cells.find? fun c => c.name = n with
  | some c => (c.text, true)
  | none => ([], false)
/-- The text of a cell of a field of a kind. -/
def cellT (l : List Field) (d : Doc) (n : Str) (k : Int) : Str × Bool := if (fieldOf l n).kind = k then docText d n else ([], false)
theorem docText_len (d : Doc) (n : Str) (hd : DSm d) : (docText d n).1.length ≤ 549755813888 := by
  unfold docText
  split
  · rename_i c hc
    exact (hd.2.2 c (List.mem_of_find?_eq_some hc)).2
  · simp
theorem cellT_len (l : List Field) (d : Doc) (n : Str) (k : Int) (hd : DSm d) : (cellT l d n k).1.length ≤ 549755813888 := by
  unfold cellT
  split
  · exact docText_len d n hd
  · simp
/-- The number of a cell. -/
def numD (l : List Field) (d : Doc) (n : Str) : Int × Bool := ((numI (cellT l d n 2).1).1, (cellT l d n 2).2)
/-- The tags of a cell, in order, each once. -/
def tagsD (l : List Field) (d : Doc) (n : Str) : List Str := if (cellT l d n 3).2 = true then uniq (splitB 44 (cellT l d n 3).1) else []
/-- The number and the tags of a cell of a document that is ok. -/
def numDoc (l : List Field) (d : Doc) (n : Str) : Int × Bool := if docOk l d = true then numD l d n else (0, false)
def tagDoc (l : List Field) (d : Doc) (n : Str) : List Str := if docOk l d = true then tagsD l d n else []
end Go.Proofs.Ytjagjfjhinlgiaa.PVE
