/- The PV engine, part 2: the pure state, what each operation does to it, and the transformer 'pwp' over the code. -/
import Derived.Test.YtanbccpabgcmaaaGreatDoorE1
set_option linter.unusedVariables false
set_option linter.unusedSimpArgs false
namespace Go.Proofs.YtanbccpabgcmaaaGreatDoor.PVE

/-- A root of the frame's store; 'links': the cells (element, offset) of which a nested slice was taken out as a root of its own. -/
structure Root where
  pv : PV
  links : List (Nat × Nat)

structure St where
  temps : Nat → PV
  store : Nat → Option Root
  next : Nat

def upd {α : Type} (f : Nat → α) (i : Nat) (x : α) : Nat → α := fun j => if j = i then x else f j

/-- What the engine knows of a type. -/
inductive TyD where
  | int (k : IntKind)
  | bool
  | str
  | slice (e : Nat)
  | ptr (e : Nat)
  | struct (fs : List (Nat × Nat))
  | other

structure TyI where
  d : TyD
  size : Nat
  bytes : Nat
  zero : List PV

/-- How a function's arguments are handed to it (0: read; 1: lent, and given back; 2: given away), whether its answer is only read from then on, and whether it may show memory that the arguments show. -/
structure CM where
  modes : List Nat
  frz : Bool
  al : Bool

structure Env where
  T : Nat → Option TyI
  G : Nat → Option (List PV)
  M : Nat → CM
  S : Nat → Option (List Nat)

namespace PV
def cells : PV → List PV
  | .agg cs => cs
  | pv => [pv]
def elem : PV → Nat → Option PV
  | .slo _ es, i => es[i]?
  | .pto cs, 0 => some (.agg cs)
  | _, _ => none
def cellAt (pv : PV) (i off : Nat) : Option PV := match pv.elem i with
  | some e => e.cells[off]?
  | none => none
def putCells (old : List PV) (off : Nat) (cs : List PV) : List PV := old.take off ++ cs ++ old.drop (off + cs.length)
def reElem : PV → Nat → List PV → PV
  | .agg old, off, cs => .agg (putCells old off cs)
  | _, _, [c] => c
  | e, _, _ => e
def setElem : PV → Nat → PV → PV
  | .slo sz es, i, e => .slo sz (es.set i e)
  | .pto _, _, .agg cs => .pto cs
  | pv, _, _ => pv
def put (pv : PV) (i off : Nat) (cs : List PV) : PV := match pv.elem i with
  | some e => pv.setElem i (e.reElem off cs)
  | none => pv
mutual
def strip : PV → PV
  | .slo _ es => .sl (stripL es)
  | .agg cs => .agg (stripL cs)
  | .pto cs => .pro (stripL cs)
  | .tup cs => .tup (stripL cs)
  | .nilS => .sl []
  | pv => pv
def stripL : List PV → List PV
  | [] => []
  | e :: es => strip e :: stripL es
end
theorem stripL_eq (es : List PV) : stripL es = es.map strip := by
  induction es with
  | nil => rfl
  | cons e es ih => simp [stripL, ih]
def nrm : PV → PV
  | .nilS => .slo 0 []
  | pv => pv
def isByte : PV → Bool
  | .int .u8 _ => true
  | _ => false
def toByte : PV → UInt8
  | .int _ n => UInt8.ofNat n.toNat
  | _ => 0
end PV
open PV

/-- The whole of a root, what was taken out of it put back; and the roots that it takes with it. -/
def foldR (s : Nat → Option Root) : Nat → Nat → Option (PV × List Nat)
  | 0, _ => none
  | n + 1, r => match s r with
    | none => none
    | some rt => rt.links.foldlM (fun acc l => match acc.1.cellAt l.1 l.2 with
      | some (.own c) => (foldR s n c).map fun x => (acc.1.put l.1 l.2 [x.1], acc.2 ++ x.2)
      | _ => some acc) (rt.pv, [r])

/-- May a cell hold it? -/
def PV.storable : PV → Bool
  | .bool _ | .int _ _ | .str _ | .lit _ | .sl _ | .slo _ _ | .pro _ | .addr _ _ _ | .fn _ _ => true
  | _ => false

/-- Cells that are to lie in memory: a handle is replaced by what it stands for. -/
def inl (s : Nat → Option Root) : List PV → Option (List PV × List Nat)
  | [] => some ([], [])
  | .own r :: cs => match foldR s 4 r, inl s cs with
    | some (.slo sz es, l), some (cs', l') => some (.slo sz es :: cs', l ++ l')
    | _, _ => none
  | .nilS :: cs => (inl s cs).map fun x => (.slo 0 [] :: x.1, x.2)
  | c :: cs => if c.storable then (inl s cs).map fun x => (c :: x.1, x.2) else none

/-- An element: its cells likewise. -/
def inlE (s : Nat → Option Root) : PV → Option (PV × List Nat)
  | .agg cs => (inl s cs).map fun x => (.agg x.1, x.2)
  | c => match inl s [c] with
    | some ([c'], l) => some (c', l)
    | _ => none
def inlEs (s : Nat → Option Root) : List PV → Option (List PV × List Nat)
  | [] => some ([], [])
  | e :: es => match inlE s e, inlEs s es with
    | some (e', l), some (es', l') => some (e' :: es', l ++ l')
    | _, _ => none

/-- A cell that owns nothing, but for a nested slice. -/
def PV.cellOk : PV → Bool
  | .pto _ | .agg _ | .tup _ => false
  | _ => true

/-- Nested slices that are owned, taken out as roots from b on: the cells with handles, the roots, the offsets. -/
def det : List PV → Nat → Nat → List PV × List (Nat × PV) × List Nat
  | [], _, _ => ([], [], [])
  | .slo sz es :: cs, b, o => (.own b :: (det cs (b + 1) (o + 1)).1, (b, .slo sz es) :: (det cs (b + 1) (o + 1)).2.1, o :: (det cs (b + 1) (o + 1)).2.2)
  | c :: cs, b, o => (c :: (det cs b (o + 1)).1, (det cs b (o + 1)).2.1, (det cs b (o + 1)).2.2)

/-- What an operation does: its value; roots that go; roots that are new or turned; the next free number. -/
structure Eff where
  val : PV
  rem : List Nat
  add : List (Nat × Root)
  nx : Nat

def St.put (st : St) : Option Nat → PV → (Nat → PV)
  | some d, v => upd st.temps d v
  | none, _ => st.temps
def applyStore (s : Nat → Option Root) (rem : List Nat) (add : List (Nat × Root)) : Nat → Option Root :=
  add.foldl (fun s x => upd s x.1 (some x.2)) (rem.foldl (fun s r => upd s r none) s)
def St.app (st : St) (dst : Option Nat) (e : Eff) : St := ⟨st.put dst e.val, applyStore st.store e.rem e.add, e.nx⟩

def leafPV : Value → PV
  | .bool b => .bool b
  | .int k n => .int k n
  | .string s => .str s.data.toList
  | .slice none 0 0 => .slo 0 []
  | v => .lit v
def constPV : Value → PV
  | .bool b => .bool b
  | .int k n => .int k n
  | .string s => .str s.data.toList
  | .slice none 0 0 => .nilS
  | .agg cs => if cs.toList.all (·.oneCell') then .agg (cs.toList.map leafPV) else .undef
  | .tuple _ => .undef
  | v => .lit v

/-- Temporaries from here on are the proof's own. -/
def gBase : Nat := 1000000
def ev (E : Env) (st : St) : Operand → PV
  | .tmp t => if t < gBase then st.temps t else .undef
  | .const v => constPV v
  | .global g => match E.G g with
    | some cs => .pro cs
    | none => .undef
  | .func f => .fn f []

def plainE (st : St) (v : PV) : Option (Prop × Eff) := some (True, ⟨v, [], [], st.next⟩)

def isAggT (i : TyI) : Bool := match i.d with
  | .struct _ => true
  | _ => false
def loadPro (st : St) (i : TyI) (cs : List PV) : Option (Prop × Eff) := if i.size ≤ cs.length then (if isAggT i then plainE st (.agg (cs.take i.size)) else match cs with
      | c :: _ => plainE st c
      | [] => none) else none
def loadE (st : St) (i : TyI) : PV → Option (Prop × Eff)
  | .pro cs => loadPro st i cs
  | .addr r k off => match st.store r with
    | none => none
    | some ⟨.pro cs, _⟩ => if k = 0 then loadPro st i (cs.drop off) else none
    | some rt => match rt.pv.elem k with
      | none => none
      | some e =>
        if off + i.size ≤ e.cells.length ∧ ((e.cells.drop off).take i.size).all PV.cellOk = true then
          let d := det ((e.cells.drop off).take i.size) st.next off
          let v := if isAggT i then PV.agg d.1 else d.1.headD .undef
          if d.2.1.isEmpty then plainE st v
          else some (True, ⟨v, [], (r, ⟨rt.pv.put k off d.1, d.2.2.map (fun o => (k, o)) ++ rt.links⟩) :: d.2.1.map (fun x => (x.1, ⟨x.2, []⟩)), st.next + d.2.1.length⟩)
        else none
  | _ => none
def ownAt : Nat → List PV → List (Nat × Nat)
  | _, [] => []
  | j, .own _ :: cs => (0, j) :: ownAt (j + 1) cs
  | j, _ :: cs => ownAt (j + 1) cs
def hasNil : List PV → Bool
  | [] => false
  | .nilS :: _ => true
  | _ :: cs => hasNil cs
/-- The lists that a struct owns stay roots of their own when it is boxed. -/
def boxLinks : PV → List (Nat × Nat)
  | .agg cs => if hasNil cs then [] else ownAt 0 cs
  | _ => []
/-- The nil slice, stored as a list of its type. -/
def nilC (i : TyI) : List PV → List PV
  | [.nilS] => (match i.zero with
    | [.slo k []] => [.slo k []]
    | _ => [.nilS])
  | cs => cs
def storeE (st : St) (i : TyI) (x : PV) : PV → Option (Prop × Eff)
  | .addr r k off => match st.store r, inl st.store (nilC i x.cells) with
    | some rt, some (cs, rem) => match rt.pv.elem k with
      | none => none
      | some e =>
        if off + i.size ≤ e.cells.length ∧ cs.length = i.size ∧ (r :: rem).Nodup then
          some (True, ⟨.void, rem, [(r, ⟨rt.pv.put k off cs, rt.links.filter fun l => !(l.1 == k && off ≤ l.2 && l.2 < off + i.size)⟩)], st.next⟩)
        else none
    | _, _ => none
  | _ => none
def newRoot (st : St) (pv : PV) (v : PV) (rem : List Nat) : Option (Prop × Eff) :=
  if rem.Nodup then some (True, ⟨v, rem, [(st.next, ⟨pv, []⟩)], st.next + 1⟩) else none

def zeroElem (i : TyI) : PV := if isAggT i then .agg i.zero else i.zero.headD .undef

/-- The elements of a slice that are copied, and what goes by that. -/
def sliceEs (st : St) : PV → Option (List PV × List Nat)
  | .sl es => some (es, [])
  | .nilS => some ([], [])
  | .own r => match foldR st.store 4 r with
    | some (.slo _ es, l) => some (es, l)
    | _ => none
  | _ => none

/-- Each element is of k cells. -/
def allLen (k : Nat) (es : List PV) : Prop := ∀ e ∈ es, e.cells.length = k
/-- A cell that owns nothing, and no handle. -/
def PV.flatC : PV → Bool
  | .bool _ | .int _ _ | .str _ | .lit _ | .sl _ => true
  | _ => false
def PV.flat : PV → Bool
  | .agg cs => cs.all PV.flatC
  | c => c.flatC
def flatL (es : List PV) : Prop := ∀ e ∈ es, e.flat = true
def appendW (st : St) (ti : TyI) (s : PV) (new : List PV) (l : List Nat) : Option (Prop × Eff) :=
  match s with
    | .nilS => if l.Nodup then some (new.length * ti.bytes ≤ 140737488355328 ∧ 0 < ti.bytes ∧ allLen ti.size new, ⟨.own st.next, l, [(st.next, ⟨.slo ti.size new, []⟩)], st.next + 1⟩) else none
    | .own r => match st.store r with
      | some ⟨.slo sz es, links⟩ => if (r :: l).Nodup ∧ sz = ti.size then
          some ((es.length + new.length) * ti.bytes ≤ 140737488355328 ∧ 0 < ti.bytes ∧ allLen ti.size new, ⟨.own st.next, r :: l, [(st.next, ⟨.slo ti.size (es ++ new), links⟩)], st.next + 1⟩) else none
      | _ => none
    | _ => none
/-- The elements that a view shows. -/
def viewEs (s : Nat → Option Root) (r a b : Nat) : Option (List PV) := match s r with
  | some ⟨.slo _ es, _⟩ => some ((es.drop a).take (b - a))
  | _ => none
def andE (q : Prop) : Option (Prop × Eff) → Option (Prop × Eff)
  | some (p, e) => some (q ∧ p, e)
  | none => none
def appendE (st : St) (ti : TyI) (s x : PV) : Option (Prop × Eff) :=
  match x with
  | .vw r a b => match viewEs st.store r a b with
    | some new => andE (flatL new) (appendW st ti s new [])
    | none => none
  | _ => match sliceEs st x with
    | some (new, l) => appendW st ti s new l
    | none => none

def lenStrE (st : St) : PV → Option (Prop × Eff)
  | .str s => plainE st (.int .i64 s.length)
  | _ => none
def lenE (st : St) : PV → Option (Prop × Eff)
  | .sl es => plainE st (.int .i64 es.length)
  | .nilS => plainE st (.int .i64 0)
  | .own r => match st.store r with
    | some ⟨.slo _ es, _⟩ => plainE st (.int .i64 es.length)
    | _ => none
  | .vw _ a b => plainE st (.int .i64 (b - a : Nat))
  | _ => none

def intBin (op : BinOp) (k : IntKind) (a b : Int) : Option (Prop × PV) :=
  match op with
  | .add => some (True, .int k (k.wrap (a + b)))
  | .sub => some (True, .int k (k.wrap (a - b)))
  | .mul => some (True, .int k (k.wrap (a * b)))
  | .quo => some (b ≠ 0, .int k (k.wrap (a.tdiv b)))
  | .rem => some (b ≠ 0, .int k (a.tmod b))
  | .and => some (True, .int k (bits .and k a b))
  | .or => some (True, .int k (bits .or k a b))
  | .xor => some (True, .int k (bits .xor k a b))
  | .eql => some (True, .bool (decide (a = b)))
  | .neq => some (True, .bool (!decide (a = b)))
  | .lss => some (True, .bool (decide (a < b)))
  | .leq => some (True, .bool (decide (a ≤ b)))
  | .gtr => some (True, .bool (decide (b < a)))
  | .geq => some (True, .bool (decide (b ≤ a)))
  | _ => none
def strBin (op : BinOp) (a b : List UInt8) : Option (Prop × PV) :=
  match op with
  | .add => some (a.length + b.length ≤ 9223372036854775807, .str (a ++ b))
  | .eql => some (True, .bool (decide (a = b)))
  | .neq => some (True, .bool (!decide (a = b)))
  | .lss => some (True, .bool (Op.bytesLess a b))
  | .leq => some (True, .bool (Op.bytesLess a b || decide (a = b)))
  | .gtr => some (True, .bool (!(Op.bytesLess a b || decide (a = b))))
  | .geq => some (True, .bool (!Op.bytesLess a b))
  | _ => none
/-- Structs of plain cells (0: whole numbers, 1: bools, 2: strings), one by one. -/
def eqCells : List Nat → List PV → List PV → Option Bool
  | [], [], [] => some true
  | 0 :: ks, .int k a :: cs, .int k' b :: ds => if k = k' then (eqCells ks cs ds).map fun r => decide (a = b) && r else none
  | 1 :: ks, .bool a :: cs, .bool b :: ds => (eqCells ks cs ds).map fun r => (a == b) && r
  | 2 :: ks, .str a :: cs, .str b :: ds => (eqCells ks cs ds).map fun r => decide (a = b) && r
  | _, _, _ => none
def aggBin (op : BinOp) (x : Option Bool) : Option (Prop × PV) :=
  match x with
  | some b => match op with
    | .eql => some (True, .bool b)
    | .neq => some (True, .bool (!b))
    | _ => none
  | none => none
def binE (E : Env) (t : Nat) (op : BinOp) : PV → PV → Option (Prop × PV)
  | .agg a, .agg b => match E.S t with
    | some ks => aggBin op (eqCells ks a b)
    | none => none
  | .int k a, .int k' b => if k = k' then intBin op k a b else none
  | .str a, .str b => strBin op a b
  | .bool a, .bool b => match E.T t with
    | some ⟨.bool, _, _, _⟩ => match op with
      | .eql => some (True, .bool (a == b))
      | .neq => some (True, .bool (!(a == b)))
      | _ => none
    | _ => none
  | _, _ => none

/-- The bounds of a slice expression. -/
def loOf : Option PV → Option Int
  | none => some 0
  | some (.int _ n) => some n
  | _ => none
def hiOf (len : Nat) : Option PV → Option Int
  | none => some len
  | some (.int _ n) => some n
  | _ => none
def cut {α : Type} (l : List α) (lo hi : Int) : List α := (l.drop lo.toNat).take (hi.toNat - lo.toNat)
def sliceE (st : St) (size : Nat) (x : PV) (lo hi : Option PV) : Option (Prop × Eff) :=
  match x with
  | .sl es => match loOf lo, hiOf es.length hi with
    | some a, some b => some (0 ≤ a ∧ a ≤ b ∧ b ≤ es.length ∧ allLen size es, ⟨.sl (cut es a b), [], [], st.next⟩)
    | _, _ => none
  | .own r => match st.store r with
    | some ⟨.slo sz es, _⟩ => if sz = size then match loOf lo, hiOf es.length hi with
      | some a, some b => some (0 ≤ a ∧ a ≤ b ∧ b ≤ es.length, ⟨.vw r a.toNat b.toNat, [], [], st.next⟩)
      | _, _ => none else none
    | _ => none
  | .vw r x y => match st.store r with
    | some ⟨.slo sz _, _⟩ => if sz = size then match loOf lo, hiOf (y - x) hi with
      | some a, some b => some (0 ≤ a ∧ a ≤ b ∧ b ≤ (y - x : Nat), ⟨.vw r (x + a.toNat) (x + b.toNat), [], [], st.next⟩)
      | _, _ => none else none
    | _ => none
  | _ => none
def sliceStrE (st : St) (x : PV) (lo hi : Option PV) : Option (Prop × Eff) :=
  match x with
  | .str s => match loOf lo, hiOf s.length hi with
    | some a, some b => some (0 ≤ a ∧ a ≤ b ∧ b ≤ s.length, ⟨.str (cut s a b), [], [], st.next⟩)
    | _, _ => none
  | _ => none

def convE (E : Env) (st : St) (src dst : Nat) (x : PV) : Option (Prop × Eff) :=
  match E.T src, E.T dst with
  | some ts, some td => match ts.d, td.d, x with
    | .int _, .int k, .int _ n => plainE st (.int k (k.wrap n))
    | .str, .str, .str s => plainE st (.str s)
    | .str, .slice e, .str s => match E.T e with
      | some ⟨.int .u8, _, _, _⟩ => some (s.length ≤ 140737488355328, ⟨.own st.next, [], [(st.next, ⟨.slo 1 (s.map fun b => .int .u8 b.toNat), []⟩)], st.next + 1⟩)
      | _ => none
    | .slice e, .str, .own r => match E.T e, st.store r with
      | some ⟨.int .u8, _, _, _⟩, some ⟨.slo _ es, _⟩ => some (∀ e ∈ es, e.isByte = true, ⟨.str (es.map toByte), [], [], st.next⟩)
      | _, _ => none
    | .slice e, .str, .sl es => match E.T e with
      | some ⟨.int .u8, _, _, _⟩ => some (∀ e ∈ es, e.isByte = true, ⟨.str (es.map toByte), [], [], st.next⟩)
      | _ => none
    | _, _, _ => none
  | _, _ => none

/-- The cells of a struct that is written out. -/
def buildCells (T : Nat → Option TyI) (fs : List (Nat × Nat)) (zero : List PV) : List (Nat × PV) → Option (List PV)
  | [] => some zero
  | (i, v) :: rest => match fs[i]? with
    | some (off, ft) => match T ft with
      | some fi => if fi.size = v.cells.length ∧ off + v.cells.length ≤ zero.length ∧ v.cells.all (fun c => c.storable || (match c with | .own _ | .nilS => true | _ => false)) = true then buildCells T fs (putCells zero off v.cells) rest else none
      | none => none
    | none => none

/-- What a closure captures is only read from then on. -/
def frzCaps (s : Nat → Option Root) : List PV → Option (List PV × List Nat × List (Nat × Root))
  | [] => some ([], [], [])
  | .addr r 0 0 :: cs => match foldR s 4 r, frzCaps s cs with
    | some (.pto ds, l), some (cs', l', add) => some (.pro (stripL ds) :: cs', l ++ l', (r, ⟨.pro (stripL ds), []⟩) :: add)
    | some (.pro ds, _), some (cs', l', add) => some (.pro ds :: cs', l', add)
    | _, _ => none
  | c :: cs => (frzCaps s cs).map fun x => (c :: x.1, x.2)
/-- What an operation that is no call of a Go function does; the condition under which it does so. -/
def eff (E : Env) (st : St) (o : Op) : Option (Prop × Eff) :=
  match o with
  | .move x | .assign x => plainE st (ev E st x)
  | .pick c a b => match ev E st c with
    | .bool t => plainE st (if t then ev E st a else ev E st b)
    | _ => none
  | .alloc t => match E.T t with
    | some i => newRoot st (.pto i.zero) (.addr st.next 0 0) []
    | none => none
  | .box t x => if (boxLinks (ev E st x)).isEmpty then (match inl st.store (ev E st x).cells with
    | some (cs, rem) => newRoot st (.pto cs) (.addr st.next 0 0) rem
    | none => none) else some (True, ⟨.addr st.next 0 0, [], [(st.next, ⟨.pto (ev E st x).cells, boxLinks (ev E st x)⟩)], st.next + 1⟩)
  | .build t parts => match E.T t with
    | some ⟨.struct fs, _, _, zero⟩ => match buildCells E.T fs zero (parts.toList.map fun x => (x.1, ev E st x.2)) with
      | some cs => plainE st (.agg cs)
      | none => none
    | _ => none
  | .buildSlice t len parts => match E.T t with
    | some ⟨.slice e, _, _, _⟩ => match E.T e with
      | some i => match inlEs st.store (parts.toList.map fun x => ev E st x.2) with
        | some (es, rem) => if parts.toList.map (·.1) = List.range len ∧ es.all (fun e => e.cells.length == i.size && (match e with | .agg _ => isAggT i | _ => !isAggT i)) = true ∧ len * i.size ≤ 16777216 then newRoot st (.slo i.size es) (.own st.next) rem else none
        | none => none
      | none => none
    | _ => none
  | .load t a => match E.T t with
    | some i => loadE st i (ev E st a)
    | none => none
  | .store t a x => match E.T t with
    | some i => storeE st i (ev E st x) (ev E st a)
    | none => none
  | .nilCheck x => match ev E st x with
    | .pro cs => plainE st (.pro cs)
    | .addr r i o => plainE st (.addr r i o)
    | .fn f cs => plainE st (.fn f cs)
    | _ => none
  | .binOp op t x y _ => match binE E t op (ev E st x) (ev E st y) with
    | some (p, v) => some (p, ⟨v, [], [], st.next⟩)
    | none => none
  | .unOp op _ x => match op, ev E st x with
    | .not, .bool b => plainE st (.bool (!b))
    | .neg, .int k n => plainE st (.int k (k.wrap (0 - n)))
    | _, _ => none
  | .convert src dst x => convE E st src dst (ev E st x)
  | .slice t x lo hi none => match E.T t with
    | some ⟨.str, _, _, _⟩ => sliceStrE st (ev E st x) (lo.map (ev E st)) (hi.map (ev E st))
    | some ⟨.slice el, _, _, _⟩ => match E.T el with
      | some i => sliceE st i.size (ev E st x) (lo.map (ev E st)) (hi.map (ev E st))
      | none => none
    | _ => none
  | .fieldAddr t x f => match E.T t with
    | some ⟨.struct fs, _, _, _⟩ => match fs[f]? with
      | some (off, _) => match ev E st x with
        | .pro cs => plainE st (.pro (cs.drop off))
        | .addr r i o => plainE st (.addr r i (o + off))
        | _ => none
      | none => none
    | _ => none
  | .field t x f => match E.T t with
    | some ⟨.struct fs, _, _, _⟩ => match fs[f]? with
      | some (off, ft) => match E.T ft, ev E st x with
        | some i, .agg cs => if off + i.size ≤ cs.length then (if isAggT i then plainE st (.agg ((cs.drop off).take i.size)) else match cs[off]? with
            | some c => plainE st c
            | none => none) else none
        | _, _ => none
      | none => none
    | _ => none
  | .indexAddr t x ix => match E.T t with
    | some ⟨.slice el, _, _, _⟩ => match E.T el, ev E st ix with
      | some ti, .int _ n => match ev E st x with
        | .sl es => match es[n.toNat]? with
          | some e => if e.cells.length = ti.size then some (0 ≤ n, ⟨.pro e.cells, [], [], st.next⟩) else none
          | none => none
        | .own r => match st.store r with
          | some ⟨.slo sz es, _⟩ => match es[n.toNat]? with
            | some _ => if sz = ti.size then some (0 ≤ n, ⟨.addr r n.toNat 0, [], [], st.next⟩) else none
            | none => none
          | _ => none
        | .vw r a b => match st.store r with
          | some ⟨.slo sz _, _⟩ => if sz = ti.size then some (0 ≤ n ∧ n.toNat < b - a, ⟨.addr r (a + n.toNat) 0, [], [], st.next⟩) else none
          | _ => none
        | _ => none
      | _, _ => none
    | _ => none
  | .index t x ix => match E.T t with
    | some ⟨.str, _, _, _⟩ => match ev E st ix, ev E st x with
      | .int _ n, .str s => some (0 ≤ n ∧ n < s.length, ⟨.int .u8 (s.getD n.toNat 0).toNat, [], [], st.next⟩)
      | _, _ => none
    | _ => none
  | .extract x i => match ev E st x with
    | .tup vs => match vs[i]? with
      | some v => plainE st v
      | none => none
    | _ => none
  | .makeSlice t l c => match E.T t with
    | some ⟨.slice e, _, _, _⟩ => match E.T e, ev E st l, ev E st c with
      | some i, .int .i64 n, .int .i64 m => some (0 ≤ n ∧ n = m ∧ n.toNat * i.bytes ≤ 140737488355328 ∧ 0 < i.bytes, ⟨.own st.next, [], [(st.next, ⟨.slo i.size (List.replicate n.toNat (zeroElem i)), []⟩)], st.next + 1⟩)
      | _, _, _ => none
    | _ => none
  | .makeFunc g first caps => match g, first.toList with
    | .func f, [] => match frzCaps st.store (caps.toList.map (ev E st)) with
      | some (cs, l, add) => if (add.map (·.1)).Nodup then some (True, ⟨.fn f cs, l, add, st.next⟩) else none
      | none => none
    | _, _ => none
  | .call c => match c.callee, c.args.toList with
    | .builtin .len, [x] => match c.argTypes[0]?.bind E.T with
      | some ⟨.str, _, _, _⟩ => lenStrE st (ev E st x)
      | some ⟨.slice _, _, _, _⟩ => lenE st (ev E st x)
      | _ => none
    | .builtin .append, [s, x] => match c.argTypes.toList with
      | [t, u] => if t = u then match E.T t with
        | some ⟨.slice e, _, _, _⟩ => match E.T e with
          | some ti => appendE st ti (ev E st s) (ev E st x)
          | none => none
        | _ => none else none
      | _ => none
    | .builtin .min, [x, y] => match ev E st x, ev E st y with
      | .int k a, .int _ b => plainE st (.int k (if b < a then b else a))
      | _, _ => none
    | _, _ => none
  | _ => none

/-- An argument that is only read: as a value, and the roots that it shows. -/
def roLeaf (s : Nat → Option Root) : PV → Option (PV × List Nat)
  | .own r => (foldR s 4 r).map fun x => (x.1.strip, x.2)
  | .addr r i off => match foldR s 4 r with
    | some (pv, l) => match pv.elem i with
      | some e => if off < e.cells.length then some (.pro (stripL (e.cells.drop off)), l) else none
      | none => match pv with
        | .pro cs => if i = 0 ∧ off < cs.length then some (.pro (cs.drop off), l) else none
        | _ => none
    | none => none
  | .nilS => some (.sl [], [])
  | .slo _ es => some (.sl (stripL es), [])
  | .undef => none
  | .vw r a b => match foldR s 4 r with
    | some (.slo _ es, l) => some (.sl (((stripL es).drop a).take (b - a)), l)
    | _ => none
  | pv => some (pv, [])
def roL (s : Nat → Option Root) : List PV → Option (List PV × List Nat)
  | [] => some ([], [])
  | c :: cs => match roLeaf s c, roL s cs with
    | some (c', l), some (cs', l') => some (c' :: cs', l ++ l')
    | _, _ => none
def roArg (s : Nat → Option Root) : PV → Option (PV × List Nat)
  | .agg cs => (roL s cs).map fun x => (.agg x.1, x.2)
  | .fn f cs => (roL s cs).map fun x => (.fn f x.1, x.2)
  | pv => roLeaf s pv

/-- To what an argument is given back: a root, or the roots that a struct's cells show. -/
inductive Bk where
  | root (r : Nat)
  | cells (rs : List (Option Nat))
def ownsOf : List PV → List (Option Nat)
  | [] => []
  | .own r :: cs => some r :: ownsOf cs
  | _ :: cs => none :: ownsOf cs
/-- The arguments of a call: as values; the roots that are read; those that are handed over; to which root each is given back. -/
structure Args where
  vs : List PV
  ro : List Nat
  gone : List Nat
  back : List (Option Bk)
def mkArgs (s : Nat → Option Root) : List Nat → List PV → Option Args
  | _, [] => some ⟨[], [], [], []⟩
  | ms, x :: xs => match mkArgs s ms.tail xs with
    | none => none
    | some a => match ms.headD 0 with
      | 0 => match roArg s x with
        | some (v, l) => some ⟨v :: a.vs, l ++ a.ro, a.gone, none :: a.back⟩
        | none => none
      | m + 1 => match x with
        | .own r => match foldR s 4 r with
          | some (.slo sz es, l) => some ⟨.slo sz es :: a.vs, a.ro, l ++ a.gone, (if m = 0 then some (.root r) else none) :: a.back⟩
          | _ => none
        | .addr r 0 0 => match foldR s 4 r with
          | some (.pto cs, l) => some ⟨.pto cs :: a.vs, a.ro, l ++ a.gone, (if m = 0 then some (.root r) else none) :: a.back⟩
          | _ => none
        | .nilS => if m = 0 then none else some ⟨.nilS :: a.vs, a.ro, a.gone, none :: a.back⟩
        | .agg cs => match inl s cs with
          | some (cs', l) => some ⟨.agg cs' :: a.vs, a.ro, l ++ a.gone, (if m = 0 then some (.cells (ownsOf cs)) else none) :: a.back⟩
          | none => none
        | _ => none

/-- What is given back, to the roots. -/
def PV.isSlo : PV → Bool
  | .slo _ _ => true
  | _ => false
def backC : List PV → List (Option Nat) → List PV → Option (List (Nat × Root))
  | [], [], [] => some []
  | .slo sz _ :: cs, some r :: rs, .slo sz' es :: ds => if sz = sz' then (backC cs rs ds).map fun l => (r, ⟨.slo sz' es, []⟩) :: l else none
  | _ :: cs, none :: rs, d :: ds => if d.isSlo = false ∧ d.cellOk = true then backC cs rs ds else none
  | _, _, _ => none
def backs (args : List PV) : List (Option Bk) → List (Option PV) → Option (List (Nat × Root))
  | [], [] => some []
  | none :: bs, none :: ps => backs args.tail bs ps
  | some (.root r) :: bs, some p :: ps => match args.headD .undef, p, backs args.tail bs ps with
    | .slo sz _, .slo sz' es, some l => if sz = sz' then some ((r, ⟨.slo sz' es, []⟩) :: l) else none
    | .pto _, .pto cs, some l => some ((r, ⟨.pto cs, []⟩) :: l)
    | _, _, _ => none
  | some (.cells rs) :: bs, some p :: ps => match args.headD .undef, p, backs args.tail bs ps with
    | .agg cs, .agg ds, some l => (backC cs rs ds).map fun l' => l' ++ l
    | _, _, _ => none
  | _, _ => none

/-- The answer of a call, taken in: what it owns becomes roots of this frame. -/
def imp1 : PV → Nat → PV × List (Nat × PV)
  | .slo sz es, b => (.own b, [(b, .slo sz es)])
  | .pto cs, b => (.addr b 0 0, [(b, .pto cs)])
  | .agg cs, b => if cs.all PV.cellOk = true then (.agg (det cs b 0).1, (det cs b 0).2.1) else (.undef, [])
  | .tup _, _ => (.undef, [])
  | pv, _ => (pv, [])
def impL : List PV → Nat → List PV × List (Nat × PV)
  | [], _ => ([], [])
  | v :: vs, b => ((imp1 v b).1 :: (impL vs (b + (imp1 v b).2.length)).1, (imp1 v b).2 ++ (impL vs (b + (imp1 v b).2.length)).2)
def imp : PV → Nat → PV × List (Nat × PV)
  | .tup vs, b => (.tup (impL vs b).1, (impL vs b).2)
  | pv, b => imp1 pv b
def impF (frz : Bool) (pv : PV) (b : Nat) : PV × List (Nat × PV) := if frz then (pv.strip, []) else imp pv b

/-- What is given back lies where the arguments lay. -/
def Bs (w : World) (R : Nat → Prop) : List Value → List (Option PV) → List Nat → Prop
  | [], [], fb => fb = []
  | _ :: vs, none :: bs, fb => Bs w R vs bs fb
  | v :: vs, some b :: bs, fb => ∃ f1 f2, V w R (fun _ => none) b v f1 ∧ Bs w R vs bs f2 ∧ fb = f1 ++ f2
  | _, _, _ => False

/-- The package's variables, as the engine knows them, are only read. -/
def GlobOk (G : Nat → Option (List PV)) (w : World) (R : Nat → Prop) : Prop :=
  ∀ g cs, G g = some cs → V w R (fun _ => none) (.pro cs) (.pointer (some ⟨g, 0, none⟩)) [] ∧ ∃ cur e fr, w.heap[g]? = some (.cells cur e fr) ∧ cur.size = cs.length

/-- A function with a body. -/
def FnOk (P : Program) (f : Nat) : Prop := ∃ fn, P.funcs[f]? = some fn ∧ (fn.name == "runtime.NumGoroutine") = false ∧ fn.body.isSome = true

/-- A CONTRACT. Called with arguments that are these values, function f comes back, its answer is the value res, what was lent is given back as bks. 'al': may the answer show memory that the arguments show? -/
def PCalls (P : Program) (G : Nat → Option (List PV)) (f : Nat) (args : List PV) (bks : List (Option PV)) (res : PV) (al : Bool) : Prop :=
  FnOk P f ∧ ∀ (w : World) (R : Nat → Prop) (vs : List Value) (fp : List Nat), GlobOk G w R → Ts w R (fun _ => none) args vs fp → fp.Nodup →
    (∀ b ∈ fp, b < w.heap.size ∧ ¬ R b) → (∀ b, R b → b < w.heap.size) →
    Calls P f vs.toArray w fun e w' => ∃ (v : Value) (R' : Nat → Prop) (fr fb : List Nat), e = .returned v ∧
      V w' (fun b => R' b ∧ (al = false → w.heap.size ≤ b)) (fun _ => none) res v fr ∧ Bs w' (fun b => R' b ∧ (al = false → w.heap.size ≤ b)) vs bks fb ∧ (fr ++ fb).Nodup ∧
      (∀ b ∈ fr ++ fb, b < w'.heap.size ∧ ¬ R' b ∧ (b ∈ fp ∨ w.heap.size ≤ b)) ∧ (∀ b, R b → R' b) ∧
      (∀ b, R' b → b < w'.heap.size ∧ (R b ∨ b ∈ fp ∨ w.heap.size ≤ b)) ∧
      (∀ b, b < w.heap.size → b ∉ fp → w'.heap[b]? = w.heap[b]?) ∧ w.heap.size ≤ w'.heap.size ∧ w'.tape = w.tape ∧ w'.os = w.os ∧ w'.output = w.output

mutual
/-- No handle in it. -/
def PV.free : PV → Prop
  | .own _ => False
  | .addr _ _ _ => False
  | .vw _ _ _ => False
  | .agg cs => PV.freeL cs
  | .tup cs => PV.freeL cs
  | .fn _ cs => PV.freeL cs
  | .sl es => PV.freeL es
  | .slo _ es => PV.freeL es
  | .pro cs => PV.freeL cs
  | .pto cs => PV.freeL cs
  | _ => True
def PV.freeL : List PV → Prop
  | [] => True
  | c :: cs => PV.free c ∧ PV.freeL cs
end

/-- A call of a Go function. -/
def callP (P : Program) (E : Env) (st : St) (f : Nat) (xs : List PV) (K : Eff → Prop) : Prop :=
  match mkArgs st.store (E.M f).modes xs with
  | none => False
  | some a => (PV.freeL a.vs ∧ a.gone.Nodup ∧ ∀ r ∈ a.ro, r ∉ a.gone) ∧ ∃ bks res al, PCalls P E.G f a.vs bks res al ∧
    match backs a.vs a.back bks with
    | none => False
    | some l => K ⟨(impF (E.M f).frz res st.next).1, a.gone ++ (if al then a.ro else []), l ++ (impF (E.M f).frz res st.next).2.map (fun x => (x.1, ⟨x.2, []⟩)), st.next + (impF (E.M f).frz res st.next).2.length⟩

def opP (P : Program) (E : Env) (st : St) (o : Op) (K : Eff → Prop) : Prop :=
  match o with
  | .call ⟨.value f, args, _⟩ => match ev E st f with
    | .fn g caps => callP P E st g (args.toList.map (ev E st) ++ caps) K
    | _ => False
  | o => match eff E st o with
    | some (p, e) => p ∧ K e
    | none => False

def dstOk (n : Nat) : Option Nat → Prop
  | some d => d < n ∧ d < gBase
  | none => True

end Go.Proofs.YtanbccpabgcmaaaGreatDoor.PVE
