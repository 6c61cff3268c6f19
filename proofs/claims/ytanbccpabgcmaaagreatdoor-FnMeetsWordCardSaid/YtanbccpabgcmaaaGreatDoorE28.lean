/- The PV engine, part 28: the run's rules for the operations. -/
import Derived.Test.YtanbccpabgcmaaaGreatDoorE27
set_option linter.unusedVariables false
set_option linter.unusedSimpArgs false
set_option linter.unusedSectionVars false
namespace Go.Proofs.YtanbccpabgcmaaaGreatDoor.PVE
open PV

section
variable {C : Nat → List PV → Option Ans} {E : Env} {st : St}
def valE (n : Nat) (v : PV) : Option (Prop × Eff) := some (True, ⟨v, [], [], n⟩)
theorem valE_eq {n : Nat} {v : PV} : valE n v = some (True, ⟨v, [], [], n⟩) := rfl
@[go_sem] theorem o_move {x : Operand} : opR C E st (.move x) = some (True, ⟨ev E st x, [], [], st.next⟩) := rfl
@[go_sem] theorem o_assign {x : Operand} : opR C E st (.assign x) = some (True, ⟨ev E st x, [], [], st.next⟩) := rfl
def pickE (n : Nat) (c a b : PV) : Option (Prop × Eff) := match c with
  | .bool t => some (True, ⟨if t = true then a else b, [], [], n⟩)
  | _ => none
@[go_sem] theorem o_pick {c x y : Operand} : opR C E st (.pick c x y) = pickE st.next (ev E st c) (ev E st x) (ev E st y) := by
  simp only [opR, eff, pickE]
  cases ev E st c <;> rfl
@[go_sem] theorem pickE_t {n : Nat} {a b : PV} : pickE n (.bool true) a b = some (True, ⟨a, [], [], n⟩) := rfl
@[go_sem] theorem pickE_f {n : Nat} {a b : PV} : pickE n (.bool false) a b = some (True, ⟨b, [], [], n⟩) := rfl
@[go_sem low] theorem pickE_b {n : Nat} {t u v : Bool} : pickE n (.bool t) (.bool u) (.bool v) = some (True, ⟨.bool (bif t then u else v), [], [], n⟩) := by cases t <;> rfl
def newE (n : Nat) (pv v : PV) (rem : List Nat) : Option (Prop × Eff) := some (rem.Nodup, ⟨v, rem, [(n, ⟨pv, []⟩)], n + 1⟩)
@[go_sem] theorem newRoot_eq {pv v : PV} {rem : List Nat} : newRoot st pv v rem = if rem.Nodup then some (True, ⟨v, rem, [(st.next, ⟨pv, []⟩)], st.next + 1⟩) else none := rfl
@[go_sem] theorem plainE_eq {v : PV} : plainE st v = some (True, ⟨v, [], [], st.next⟩) := rfl
@[go_sem] theorem o_alloc {t : Nat} : opR C E st (.alloc t) = (match E.T t with
    | some i => newRoot st (.pto i.zero) (.addr st.next 0 0) []
    | none => none) := rfl
@[go_sem] theorem o_box {t : Nat} {x : Operand} : opR C E st (.box t x) = if (boxLinks (ev E st x)).isEmpty then (match inl st.store (ev E st x).cells with
    | some (cs, rem) => newRoot st (.pto cs) (.addr st.next 0 0) rem
    | none => none) else some (True, ⟨.addr st.next 0 0, [], [(st.next, ⟨.pto (ev E st x).cells, boxLinks (ev E st x)⟩)], st.next + 1⟩) := rfl
@[go_sem] theorem o_build {t : Nat} {parts : Array (Nat × Operand)} : opR C E st (.build t parts) = (match E.T t with
    | some ⟨.struct fs, _, _, zero⟩ => (match buildCells E.T fs zero (parts.toList.map fun x => (x.1, ev E st x.2)) with
      | some cs => plainE st (.agg cs)
      | none => none)
    | _ => none) := rfl
@[go_sem] theorem o_buildSlice {t len : Nat} {parts : Array (Nat × Operand)} : opR C E st (.buildSlice t len parts) = (match E.T t with
    | some ⟨.slice e, _, _, _⟩ => (match E.T e with
      | some i => (match inlEs st.store (parts.toList.map fun x => ev E st x.2) with
        | some (es, rem) => if parts.toList.map (·.1) = List.range len ∧ es.all (fun e => e.cells.length == i.size && (match e with | .agg _ => isAggT i | _ => !isAggT i)) = true ∧ len * i.size ≤ 16777216 then newRoot st (.slo i.size es) (.own st.next) rem else none
        | none => none)
      | none => none)
    | _ => none) := rfl
@[go_sem] theorem o_load {t : Nat} {a : Operand} : opR C E st (.load t a) = (match E.T t with
    | some i => loadE st i (ev E st a)
    | none => none) := rfl
@[go_sem] theorem o_store {t : Nat} {a x : Operand} : opR C E st (.store t a x) = (match E.T t with
    | some i => storeE st i (ev E st x) (ev E st a)
    | none => none) := rfl
def nilE (n : Nat) (x : PV) : Option (Prop × Eff) := match x with
  | .pro cs => some (True, ⟨.pro cs, [], [], n⟩)
  | .addr r i o => some (True, ⟨.addr r i o, [], [], n⟩)
  | .fn f cs => some (True, ⟨.fn f cs, [], [], n⟩)
  | _ => none
@[go_sem] theorem o_nilCheck {x : Operand} : opR C E st (.nilCheck x) = nilE st.next (ev E st x) := by
  simp only [opR, eff, nilE]
  cases ev E st x <;> rfl
def binO (n : Nat) (x : Option (Prop × PV)) : Option (Prop × Eff) := match x with
  | some (p, v) => some (p, ⟨v, [], [], n⟩)
  | none => none
@[go_sem] theorem binO_some {n : Nat} {p : Prop} {v : PV} : binO n (some (p, v)) = some (p, ⟨v, [], [], n⟩) := rfl
@[go_sem] theorem o_binOp {op : BinOp} {t u : Nat} {x y : Operand} : opR C E st (.binOp op t x y u) = binO st.next (binE E t op (ev E st x) (ev E st y)) := by
  simp only [opR, eff]
  rcases binE E t op (ev E st x) (ev E st y) with _ | ⟨p, v⟩ <;> rfl
def unE (n : Nat) (op : UnOp) (x : PV) : Option (Prop × Eff) := match op, x with
  | .not, .bool b => some (True, ⟨.bool (!b), [], [], n⟩)
  | .neg, .int k m => some (True, ⟨.int k (k.wrap (0 - m)), [], [], n⟩)
  | _, _ => none
@[go_sem] theorem o_unOp {op : UnOp} {t : Nat} {x : Operand} : opR C E st (.unOp op t x) = unE st.next op (ev E st x) := by
  simp only [opR, eff, unE]
  cases op <;> cases ev E st x <;> rfl
@[go_sem] theorem o_convert {src dst : Nat} {x : Operand} : opR C E st (.convert src dst x) = convE E st src dst (ev E st x) := rfl
@[go_sem] theorem o_slice {t : Nat} {x : Operand} {lo hi : Option Operand} : opR C E st (.slice t x lo hi none) = (match E.T t with
    | some ⟨.str, _, _, _⟩ => sliceStrE st (ev E st x) (lo.map (ev E st)) (hi.map (ev E st))
    | some ⟨.slice el, _, _, _⟩ => (match E.T el with
      | some i => sliceE st i.size (ev E st x) (lo.map (ev E st)) (hi.map (ev E st))
      | none => none)
    | _ => none) := rfl
def faE (n : Nat) (off : Nat) (x : PV) : Option (Prop × Eff) := match x with
  | .pro cs => some (True, ⟨.pro (cs.drop off), [], [], n⟩)
  | .addr r i o => some (True, ⟨.addr r i (o + off), [], [], n⟩)
  | _ => none
@[go_sem] theorem o_fieldAddr {t f : Nat} {x : Operand} : opR C E st (.fieldAddr t x f) = (match E.T t with
    | some ⟨.struct fs, _, _, _⟩ => (match fs[f]? with
      | some (off, _) => faE st.next off (ev E st x)
      | none => none)
    | _ => none) := by
  simp only [opR, eff]
  rcases E.T t with _ | ⟨d, _, _, _⟩
  · rfl
  · cases d <;> rfl
def fldE (n : Nat) (off : Nat) (i : TyI) (x : PV) : Option (Prop × Eff) := match x with
  | .agg cs => if off + i.size ≤ cs.length then (if isAggT i then some (True, ⟨.agg ((cs.drop off).take i.size), [], [], n⟩) else match cs[off]? with
    | some c => some (True, ⟨c, [], [], n⟩)
    | none => none) else none
  | _ => none
@[go_sem] theorem o_field {t f : Nat} {x : Operand} : opR C E st (.field t x f) = (match E.T t with
    | some ⟨.struct fs, _, _, _⟩ => (match fs[f]? with
      | some (off, ft) => (match E.T ft with
        | some i => fldE st.next off i (ev E st x)
        | none => none)
      | none => none)
    | _ => none) := by
  simp only [opR, eff]
  rcases E.T t with _ | ⟨d, _, _, _⟩
  · rfl
  · cases d <;> try rfl
    rename_i fs
    simp only
    rcases fs[f]? with _ | ⟨off, ft⟩
    · rfl
    · simp only [fldE]
      cases E.T ft <;> cases ev E st x <;> rfl
/-- Element n of a slice. -/
def ixE (s : Nat → Option Root) (nx : Nat) (ti : TyI) (n : Int) (x : PV) : Option (Prop × Eff) := match x with
  | .sl es => match es[n.toNat]? with
    | some e => if e.cells.length = ti.size then some (0 ≤ n, ⟨.pro e.cells, [], [], nx⟩) else none
    | none => none
  | .own r => match s r with
    | some ⟨.slo sz es, _⟩ => match es[n.toNat]? with
      | some _ => if sz = ti.size then some (0 ≤ n, ⟨.addr r n.toNat 0, [], [], nx⟩) else none
      | none => none
    | _ => none
  | .vw r a b => match s r with
    | some ⟨.slo sz _, _⟩ => if sz = ti.size then some (0 ≤ n ∧ n.toNat < b - a, ⟨.addr r (a + n.toNat) 0, [], [], nx⟩) else none
    | _ => none
  | _ => none
@[go_sem] theorem ixE_vw {s : Nat → Option Root} {nx : Nat} {ti : TyI} {n : Int} {r a b : Nat} : ixE s nx ti n (.vw r a b) = (match s r with
    | some ⟨.slo sz _, _⟩ => if sz = ti.size then some (0 ≤ n ∧ n.toNat < b - a, ⟨.addr r (a + n.toNat) 0, [], [], nx⟩) else none
    | _ => none) := rfl
def ownIx (r : Nat) (sz : Nat) (es : List PV) (ti : TyI) (n : Int) (nx : Nat) : Option (Prop × Eff) := match es[n.toNat]? with
  | some _ => if sz = ti.size then some (0 ≤ n, ⟨.addr r n.toNat 0, [], [], nx⟩) else none
  | none => none
@[go_sem] theorem ixE_own {s : Nat → Option Root} {nx : Nat} {ti : TyI} {n : Int} {r : Nat} : ixE s nx ti n (.own r) = (match s r with
    | some ⟨.slo sz es, _⟩ => ownIx r sz es ti n nx
    | _ => none) := rfl
@[go_sem] theorem ixE_lit {s : Nat → Option Root} {nx : Nat} {ti : TyI} {n : Int} {e : PV} {es : List PV} : ixE s nx ti n (.sl (e :: es)) = (match (e :: es)[n.toNat]? with
    | some e => if e.cells.length = ti.size then some (0 ≤ n, ⟨.pro e.cells, [], [], nx⟩) else none
    | none => none) := rfl
section
variable {S : Sys} {F : Fx} {T : Nat → PV} {St' : Nat → Option Root} {N : Nat} {ks : List Fr} {rr : Ans} {all : Array Oper} {lo : List Oper} {i d : Nat} {log : List (Nat × List Nat × List Nat)} {op : Op}
@[go_sem] theorem effE_ownIx {r sz nx : Nat} {es : List PV} {ti : TyI} {n : Int} : effE S F (ownIx r sz es ti n nx) (some d) all lo ⟨T, St', N⟩ ks rr = ((0 ≤ n ∧ n.toNat < es.length ∧ sz = ti.size) ∧ Ends S F (.ops all lo ⟨upd T d (.addr r n.toNat 0), St', nx⟩ ks) rr) := by
  unfold ownIx
  by_cases h : n.toNat < es.length
  · by_cases hs : sz = ti.size
    · simp only [List.getElem?_eq_getElem h, hs, if_true, effE, h, true_and, and_true]; rfl
    · simp [List.getElem?_eq_getElem h, hs, effE]
  · simp [List.getElem?_eq_none (by omega : es.length ≤ n.toNat), effE, h]
@[go_sem] theorem effD_ownIx {r sz nx : Nat} {es : List PV} {ti : TyI} {n : Int} : effD S F (ownIx r sz es ti n nx) op (some d) all i lo log ⟨T, St', N⟩ ks rr = ((0 ≤ n ∧ n.toNat < es.length ∧ sz = ti.size) ∧ Ends S F (.dops all (i + 1) lo (addLog i (touchOp S.E ⟨T, St', N⟩ op) [] log) ⟨upd T d (.addr r n.toNat 0), St', nx⟩ ks) rr) := by
  unfold ownIx
  by_cases h : n.toNat < es.length
  · by_cases hs : sz = ti.size
    · simp only [List.getElem?_eq_getElem h, hs, if_true, effD, h, true_and, and_true]; rfl
    · simp [List.getElem?_eq_getElem h, hs, effD]
  · simp [List.getElem?_eq_none (by omega : es.length ≤ n.toNat), effD, h]
@[go_sem] theorem effE_ixsl {α : Type} [Inhabited α] {f : α → PV} {k : Nat} [Enc f k] {l : List α} {s : Nat → Option Root} {nx b : Nat} {td : TyD} {z : List PV} {n : Int} : effE S F (ixE s nx ⟨td, k, b, z⟩ n (.sl (l.map f))) (some d) all lo ⟨T, St', N⟩ ks rr = ((0 ≤ n ∧ n.toNat < l.length) ∧ Ends S F (.ops all lo ⟨upd T d (.pro (f (l.getD n.toNat default)).cells), St', nx⟩ ks) rr) := by
  unfold ixE
  by_cases h : n.toNat < l.length
  · simp only [List.getElem?_map, List.getElem?_eq_getElem h, Option.map_some, Enc.len, if_true, effE, h, and_true, List.getD_eq_getElem?_getD, Option.getD_some]; rfl
  · simp [List.getElem?_eq_none (by omega : l.length ≤ n.toNat), effE, h]
@[go_sem] theorem effD_ixsl {α : Type} [Inhabited α] {f : α → PV} {k : Nat} [Enc f k] {l : List α} {s : Nat → Option Root} {nx b : Nat} {td : TyD} {z : List PV} {n : Int} : effD S F (ixE s nx ⟨td, k, b, z⟩ n (.sl (l.map f))) op (some d) all i lo log ⟨T, St', N⟩ ks rr = ((0 ≤ n ∧ n.toNat < l.length) ∧ Ends S F (.dops all (i + 1) lo (addLog i (touchOp S.E ⟨T, St', N⟩ op) [] log) ⟨upd T d (.pro (f (l.getD n.toNat default)).cells), St', nx⟩ ks) rr) := by
  unfold ixE
  by_cases h : n.toNat < l.length
  · simp only [List.getElem?_map, List.getElem?_eq_getElem h, Option.map_some, Enc.len, if_true, effD, h, and_true, List.getD_eq_getElem?_getD, Option.getD_some]; rfl
  · simp [List.getElem?_eq_none (by omega : l.length ≤ n.toNat), effD, h]
end
def ixI (s : Nat → Option Root) (nx : Nat) (ti : TyI) (x : PV) (i : PV) : Option (Prop × Eff) := match i with
  | .int _ n => ixE s nx ti n x
  | _ => none
@[go_sem] theorem ixI_int {s : Nat → Option Root} {nx : Nat} {ti : TyI} {x : PV} {k : IntKind} {n : Int} : ixI s nx ti x (.int k n) = ixE s nx ti n x := rfl
@[go_sem] theorem o_indexAddr {t : Nat} {x ix : Operand} : opR C E st (.indexAddr t x ix) = (match E.T t with
    | some ⟨.slice el, _, _, _⟩ => (match E.T el with
      | some ti => ixI st.store st.next ti (ev E st x) (ev E st ix)
      | none => none)
    | _ => none) := by
  simp only [opR, eff]
  rcases E.T t with _ | ⟨d, _, _, _⟩
  · rfl
  · cases d <;> try rfl
    rename_i el
    simp only
    cases E.T el with
    | none => rfl
    | some ti =>
      cases ev E st ix <;> cases ev E st x <;> rfl
def ixS (nx : Nat) (x i : PV) : Option (Prop × Eff) := match i, x with
  | .int _ n, .str s => some (0 ≤ n ∧ n < s.length, ⟨.int .u8 (s.getD n.toNat 0).toNat, [], [], nx⟩)
  | _, _ => none
@[go_sem] theorem ixS_int {nx : Nat} {s : List UInt8} {k : IntKind} {n : Int} : ixS nx (.str s) (.int k n) = some (0 ≤ n ∧ n < s.length, ⟨.int .u8 (s.getD n.toNat 0).toNat, [], [], nx⟩) := rfl
@[go_sem] theorem o_index {t : Nat} {x ix : Operand} : opR C E st (.index t x ix) = (match E.T t with
    | some ⟨.str, _, _, _⟩ => ixS st.next (ev E st x) (ev E st ix)
    | _ => none) := by
  simp only [opR, eff]
  rcases E.T t with _ | ⟨d, _, _, _⟩
  · rfl
  · cases d <;> first | rfl | (simp only [ixS]; cases ev E st ix <;> cases ev E st x <;> rfl)
@[go_sem] theorem o_extract {i : Nat} {x : Operand} : opR C E st (.extract x i) = (match ev E st x with
    | .tup vs => (match vs[i]? with
      | some v => plainE st v
      | none => none)
    | _ => none) := rfl
@[go_sem] theorem o_makeSlice {t : Nat} {l c : Operand} : opR C E st (.makeSlice t l c) = (match E.T t with
    | some ⟨.slice e, _, _, _⟩ => (match E.T e, ev E st l, ev E st c with
      | some i, .int .i64 n, .int .i64 m => some (0 ≤ n ∧ n = m ∧ n.toNat * i.bytes ≤ 140737488355328 ∧ 0 < i.bytes, ⟨.own st.next, [], [(st.next, ⟨.slo i.size (List.replicate n.toNat (zeroElem i)), []⟩)], st.next + 1⟩)
      | _, _, _ => none)
    | _ => none) := rfl
@[go_sem] theorem o_makeFunc {f : Nat} {caps : Array Operand} : opR C E st (.makeFunc (.func f) (List.toArray []) caps) = (match frzCaps st.store (caps.toList.map (ev E st)) with
      | some (cs, l, add) => if (add.map (·.1)).Nodup then some (True, ⟨.fn f cs, l, add, st.next⟩) else none
      | none => none) := rfl
@[go_sem] theorem vals_mf {E : Env} {st : St} {f : Nat} {caps : List Operand} : valsOf E st (.makeFunc (.func f) (List.toArray []) (List.toArray caps)) = caps.map (ev E st) := by
  simp [valsOf, Op.operands]
@[go_sem] theorem o_len {x : Operand} {t : Nat} : opR C E st (.call ⟨.builtin .len, List.toArray [x], List.toArray [t]⟩) = (match E.T t with
    | some ⟨.str, _, _, _⟩ => lenStrE st (ev E st x)
    | some ⟨.slice _, _, _, _⟩ => lenE st (ev E st x)
    | _ => none) := rfl
@[go_sem] theorem o_append {x y : Operand} {t u : Nat} : opR C E st (.call ⟨.builtin .append, List.toArray [x, y], List.toArray [t, u]⟩) = (if t = u then (match E.T t with
    | some ⟨.slice e, _, _, _⟩ => (match E.T e with
      | some ti => appendE st ti (ev E st x) (ev E st y)
      | none => none)
    | _ => none) else none) := rfl
def minE (nx : Nat) (x y : PV) : Option (Prop × Eff) := match x, y with
  | .int k a, .int _ b => some (True, ⟨.int k (if b < a then b else a), [], [], nx⟩)
  | _, _ => none
@[go_sem] theorem minE_int {nx : Nat} {k k' : IntKind} {a b : Int} : minE nx (.int k a) (.int k' b) = some (True, ⟨.int k (if b < a then b else a), [], [], nx⟩) := rfl
@[go_sem] theorem o_min {x y : Operand} {tys : Array Nat} : opR C E st (.call ⟨.builtin .min, List.toArray [x, y], tys⟩) = minE st.next (ev E st x) (ev E st y) := by
  simp only [opR, eff, minE]
  cases ev E st x <;> cases ev E st y <;> rfl
def fnE (C : Nat → List PV → Option Ans) (E : Env) (st : St) (v : PV) (xs : List PV) : Option (Prop × Eff) := match v with
  | .fn g caps => callE C E st g (xs ++ caps)
  | _ => none
@[go_sem] theorem fnE_fn {g : Nat} {caps xs : List PV} : fnE C E st (.fn g caps) xs = callE C E st g (xs ++ caps) := rfl
@[go_sem] theorem o_call {f : Operand} {args : List Operand} {tys : Array Nat} : opR C E st (.call ⟨.value f, List.toArray args, tys⟩) = fnE C E st (ev E st f) (args.map (ev E st)) := rfl
def argE (C : Nat → List PV → Option Ans) (E : Env) (st : St) (f : Nat) (a : Option Args) : Option (Prop × Eff) := match a with
  | none => none
  | some a => retE E st f a (C f a.vs)
@[go_sem] theorem o_callE {f : Nat} {xs : List PV} : callE C E st f xs = argE C E st f (mkArgs st.store (E.M f).modes xs) := by
  unfold callE argE
  cases mkArgs st.store (E.M f).modes xs <;> rfl
@[go_sem] theorem argE_some {f : Nat} {vs : List PV} {ro gone : List Nat} {back : List (Option Bk)} : argE C E st f (some ⟨vs, ro, gone, back⟩) = retE E st f ⟨vs, ro, gone, back⟩ (C f vs) := rfl
def bkE (E : Env) (st : St) (f : Nat) (vs : List PV) (ro gone : List Nat) (res : PV) (l : Option (List (Nat × Root))) (x : PV × List (Nat × PV)) : Option (Prop × Eff) := match l with
  | none => none
  | some l => some (PV.freeL vs ∧ gone.Nodup ∧ ∀ r ∈ ro, r ∉ gone, ⟨x.1, gone ++ (if (E.M f).al then ro else []), l ++ x.2.map (fun x => (x.1, ⟨x.2, []⟩)), st.next + x.2.length⟩)
@[go_sem] theorem retE_some {f : Nat} {vs : List PV} {ro gone : List Nat} {back : List (Option Bk)} {bks : List (Option PV)} {res : PV} : retE E st f ⟨vs, ro, gone, back⟩ (some ⟨bks, res⟩) = bkE E st f vs ro gone res (backs vs back bks) (impF (E.M f).frz res st.next) := by
  simp only [retE, bkE]
  cases backs vs back bks <;> rfl
@[go_sem] theorem bkE_some {f : Nat} {vs : List PV} {ro gone : List Nat} {res v : PV} {l : List (Nat × Root)} {y : List (Nat × PV)} : bkE E st f vs ro gone res (some l) (v, y) = some (PV.freeL vs ∧ gone.Nodup ∧ ∀ r ∈ ro, r ∉ gone, ⟨v, gone ++ (if (E.M f).al then ro else []), l ++ y.map (fun x => (x.1, ⟨x.2, []⟩)), st.next + y.length⟩) := rfl
end

/-! ### Numbers, strings, bools -/
section
variable {E : Env} {t : Nat}
@[go_sem] theorem b_int {op : BinOp} {k : IntKind} {a b : Int} : binE E t op (.int k a) (.int k b) = intBin op k a b := by simp [binE]
@[go_sem] theorem b_str {op : BinOp} {a b : List UInt8} : binE E t op (.str a) (.str b) = strBin op a b := rfl
@[go_sem] theorem b_agg {op : BinOp} {a b : List PV} : binE E t op (.agg a) (.agg b) = (match E.S t with
    | some ks => aggBin op (eqCells ks a b)
    | none => none) := rfl
@[go_sem] theorem b_bool_eql {a b : Bool} : binE E t .eql (.bool a) (.bool b) = (match E.T t with
    | some ⟨.bool, _, _, _⟩ => some (True, .bool (a == b))
    | _ => none) := rfl
@[go_sem] theorem b_bool_neq {a b : Bool} : binE E t .neq (.bool a) (.bool b) = (match E.T t with
    | some ⟨.bool, _, _, _⟩ => some (True, .bool (!(a == b)))
    | _ => none) := rfl
end
theorem wrap_in {x : Int} (h1 : -9223372036854775808 ≤ x) (h2 : x ≤ 9223372036854775807) : IntKind.i64.wrap x = x := IntWalk.i64_in x ⟨h1, by omega⟩
@[go_sem] theorem dec_T {h : Decidable True} : @decide True h = true := by simp
@[go_sem] theorem dec_F {h : Decidable False} : @decide False h = false := by simp
@[go_sem] theorem foldR4 {s : Nat → Option Root} {r : Nat} : foldR s 4 r = (match s r with
    | none => none
    | some ⟨pv, []⟩ => some (pv, [r])
    | some ⟨pv, l :: ls⟩ => (l :: ls).foldlM (fun acc l => match acc.1.cellAt l.1 l.2 with
      | some (.own c) => (foldR s 3 c).map fun x => (acc.1.put l.1 l.2 [x.1], acc.2 ++ x.2)
      | _ => some acc) (pv, [r])) := by
  conv => lhs; unfold foldR
  cases s r with
  | none => rfl
  | some x => obtain ⟨pv, ls⟩ := x; cases ls <;> rfl
@[go_sem] theorem foldR3 {s : Nat → Option Root} {r : Nat} : foldR s 3 r = (match s r with
    | none => none
    | some ⟨pv, []⟩ => some (pv, [r])
    | some ⟨pv, l :: ls⟩ => (l :: ls).foldlM (fun acc l => match acc.1.cellAt l.1 l.2 with
      | some (.own c) => (foldR s 2 c).map fun x => (acc.1.put l.1 l.2 [x.1], acc.2 ++ x.2)
      | _ => some acc) (pv, [r])) := by
  conv => lhs; unfold foldR
  cases s r with
  | none => rfl
  | some x => obtain ⟨pv, ls⟩ := x; cases ls <;> rfl
@[go_sem] theorem foldR2 {s : Nat → Option Root} {r : Nat} : foldR s 2 r = (match s r with
    | none => none
    | some ⟨pv, []⟩ => some (pv, [r])
    | some ⟨pv, l :: ls⟩ => (l :: ls).foldlM (fun acc l => match acc.1.cellAt l.1 l.2 with
      | some (.own c) => (foldR s 1 c).map fun x => (acc.1.put l.1 l.2 [x.1], acc.2 ++ x.2)
      | _ => some acc) (pv, [r])) := by
  conv => lhs; unfold foldR
  cases s r with
  | none => rfl
  | some x => obtain ⟨pv, ls⟩ := x; cases ls <;> rfl
@[go_sem] theorem obind_some {α β : Type} {a : α} {f : α → Option β} : ((some a : Option α) >>= f) = f a := rfl
@[go_sem] theorem obind_none {α β : Type} {f : α → Option β} : ((none : Option α) >>= f) = none := rfl
@[go_sem] theorem opure {α : Type} {a : α} : (pure a : Option α) = some a := rfl
@[go_sem] theorem re_agg {old cs : List PV} {off : Nat} : (PV.agg old).reElem off cs = .agg (PV.putCells old off cs) := rfl
@[go_sem] theorem re_int {k : IntKind} {n : Int} {c : PV} {off : Nat} : (PV.int k n).reElem off [c] = c := rfl
@[go_sem] theorem re_str {s : List UInt8} {c : PV} {off : Nat} : (PV.str s).reElem off [c] = c := rfl
@[go_sem] theorem re_bool {b : Bool} {c : PV} {off : Nat} : (PV.bool b).reElem off [c] = c := rfl
@[go_sem] theorem re_byte {b : UInt8} {c : PV} {off : Nat} : (bytePV b).reElem off [c] = c := rfl
@[go_sem] theorem re_slo {z : Nat} {l : List PV} {c : PV} {off : Nat} : (PV.slo z l).reElem off [c] = c := rfl
@[go_sem] theorem re_sl {l : List PV} {c : PV} {off : Nat} : (PV.sl l).reElem off [c] = c := rfl
@[go_sem] theorem re_own {r : Nat} {c : PV} {off : Nat} : (PV.own r).reElem off [c] = c := rfl
@[go_sem] theorem allLen_nil {k : Nat} : allLen k [] = True := by simp [allLen]
@[go_sem] theorem allLen_cons {k : Nat} {e : PV} {es : List PV} : allLen k (e :: es) = (e.cells.length = k ∧ allLen k es) := by simp [allLen]
/-- Where nothing is written, any order will do. -/
@[go_sem] theorem logOk_ro {ops : Array Oper} {log : List (Nat × List Nat × List Nat)} (h : (log.all fun x => x.2.2.isEmpty) = true) : logOk ops log = true := by
  refine List.all_eq_true.2 fun x hx => ?_
  rw [(List.all_eq_true.1 h) x hx]
  rfl
@[go_sem] theorem logOk_nil {ops : Array Oper} : logOk ops [] = true := rfl
@[go_sem] theorem vals_load {E : Env} {st : St} {t : Nat} {x : Operand} : valsOf E st (.load t x) = [ev E st x] := rfl
@[go_sem] theorem vals_box {E : Env} {st : St} {t : Nat} {x : Operand} : valsOf E st (.box t x) = [ev E st x] := rfl
@[go_sem] theorem vals_bs {E : Env} {st : St} {a b : Nat} {ps : List (Nat × Operand)} : valsOf E st (.buildSlice a b (List.toArray ps)) = ps.map fun x => ev E st x.2 := by
  simp [valsOf, Op.operands, Function.comp_def]
@[go_sem] theorem vals_conv {E : Env} {st : St} {a b : Nat} {x : Operand} : valsOf E st (.convert a b x) = [ev E st x] := rfl
@[go_sem] theorem vals_store {E : Env} {st : St} {t : Nat} {x y : Operand} : valsOf E st (.store t x y) = [ev E st x, ev E st y] := rfl
@[go_sem] theorem vals_ixa {E : Env} {st : St} {t : Nat} {x y : Operand} : valsOf E st (.indexAddr t x y) = [ev E st x, ev E st y] := rfl
@[go_sem] theorem vals_callb {E : Env} {st : St} {b : Builtin} {xs : List Operand} {tys : Array Nat} : valsOf E st (.call ⟨.builtin b, List.toArray xs, tys⟩) = xs.map (ev E st) := by
  simp [valsOf, Op.operands, Call.operands]
@[go_sem] theorem vals_call {E : Env} {st : St} {f : Operand} {xs : List Operand} {tys : Array Nat} : valsOf E st (.call ⟨.value f, List.toArray xs, tys⟩) = ev E st f :: xs.map (ev E st) := by
  simp [valsOf, Op.operands, Call.operands]
theorem cells_agg (cs : List PV) : (PV.agg cs).cells = cs := rfl
theorem cells_int (k : IntKind) (i : Int) : (PV.int k i).cells = [.int k i] := rfl
theorem cells_str (s : List UInt8) : (PV.str s).cells = [.str s] := rfl
theorem cells_bool (s : Bool) : (PV.bool s).cells = [.bool s] := rfl
theorem cells_lit (s : Value) : (PV.lit s).cells = [.lit s] := rfl
theorem cells_nil : PV.nilS.cells = [.nilS] := rfl
theorem cells_sl (s : List PV) : (PV.sl s).cells = [.sl s] := rfl
theorem cells_slo (k : Nat) (s : List PV) : (PV.slo k s).cells = [.slo k s] := rfl
theorem cells_own (s : Nat) : (PV.own s).cells = [.own s] := rfl
theorem cells_pro (s : List PV) : (PV.pro s).cells = [.pro s] := rfl
theorem cells_addr (r i o : Nat) : (PV.addr r i o).cells = [.addr r i o] := rfl
theorem cells_fn (f : Nat) (s : List PV) : (PV.fn f s).cells = [.fn f s] := rfl
theorem range_lits : List.range 0 = [] ∧ List.range 1 = [0] ∧ List.range 2 = [0, 1] ∧ List.range 3 = [0, 1, 2] ∧ List.range 4 = [0, 1, 2, 3] ∧ List.range 5 = [0, 1, 2, 3, 4] ∧ List.range 6 = [0, 1, 2, 3, 4, 5] ∧ List.range 14 = [0, 1, 2, 3, 4, 5, 6, 7, 8, 9, 10, 11, 12, 13] := ⟨rfl, rfl, rfl, rfl, rfl, rfl, rfl, rfl⟩
@[go_sem] theorem cast_one : ((1 : Nat) : Int) = 1 := rfl
@[go_sem] theorem cast_two : ((2 : Nat) : Int) = 2 := rfl
@[go_sem] theorem cast_three : ((3 : Nat) : Int) = 3 := rfl
@[go_sem] theorem bif_tt {b c : Bool} : (bif true then b else c) = b := rfl
@[go_sem] theorem bif_ff {b c : Bool} : (bif false then b else c) = c := rfl

attribute [go_sem] nilC ownAt hasNil boxLinks
attribute [go_sem] isAggT loadPro loadE frzCaps storeE zeroElem lenStrE lenE intBin strBin loOf hiOf sliceE sliceStrE convE buildCells sliceEs appendE appendW viewEs andE expVW frz1 frzAll eqCells aggBin nilE unE faE fldE
attribute [go_sem] cells_agg cells_int cells_str cells_bool cells_lit cells_nil cells_sl cells_slo cells_own cells_pro cells_addr cells_fn PV.elem PV.cellAt PV.put PV.setElem PV.putCells PV.strip PV.stripL PV.storable PV.cellOk inl inlE inlEs det roLeaf roL roArg mkArgs ownsOf backC backs imp1 impL imp impF
attribute [go_sem] if_true if_false List.map_cons List.map_nil List.nil_append List.cons_append List.append_nil List.length_cons List.length_nil List.toList_toArray List.take_succ_cons List.take_zero List.take_nil List.drop_succ_cons List.drop_zero List.drop_nil and_true true_and List.nodup_nil List.not_mem_nil not_false_eq_true List.getElem?_toArray List.getElem?_cons_zero List.getElem?_cons_succ List.getElem?_nil List.headD_cons List.headD_nil List.tail_cons List.tail_nil Option.map_some Option.map_none Option.bind_some Option.bind_none List.all_cons List.all_nil Bool.and_true Bool.true_and Bool.or_true Bool.true_or List.set_cons_zero List.set_cons_succ List.isEmpty_nil List.isEmpty_cons Bool.false_eq_true List.length_map List.length_append Option.getD_some Option.getD_none List.nodup_cons List.mem_cons List.filter_nil List.filter_cons eq_self false_implies implies_true List.append_assoc and_self forall_const or_false false_or range_lits beq_self_eq_true forall_eq ne_eq Bool.not_true Bool.not_false Bool.not_not List.getElem?_map Int.toNat_natCast List.getD_cons_zero List.getD_cons_succ List.getD_nil Int.natCast_zero List.length_set List.set_set
attribute [go_sem] PV.free PV.freeL PV.noR PV.noRL PV.ren PV.renL PV.okr PV.okrL exp1 expRV noRB expAll backAll freeB mkRes finR nilTo cutS pairsOf foldAll dedup addH idx hands handsL touchOp storeless touch addLog loopKey dstAt
attribute [go_sem] PV.bool.injEq PV.int.injEq PV.str.injEq PV.sl.injEq PV.slo.injEq PV.agg.injEq PV.tup.injEq List.cons.injEq Option.some.injEq
attribute [go_sem] Nat.sub_zero Nat.mul_one Nat.zero_add Nat.add_zero Int.add_zero
attribute [go_sem] List.any_cons List.any_nil Bool.or_false Bool.false_or decide_eq_true_eq decide_eq_false_iff_not Bool.and_eq_true Bool.false_and Bool.and_false List.flatMap_cons List.flatMap_nil reach List.foldlM_cons List.foldlM_nil true_implies Bool.true_eq_false not_true_eq_false
end Go.Proofs.YtanbccpabgcmaaaGreatDoor.PVE
