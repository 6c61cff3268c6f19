/- The PV engine, part 20: the machine: what a function's code does to the pure state, step by step. -/
import Derived.Test.YtanbccpabgcmaaaGreatDoorE19
set_option linter.unusedVariables false
set_option linter.unusedSimpArgs false
set_option linter.unusedSectionVars false
namespace Go.Proofs.YtanbccpabgcmaaaGreatDoor.PVE
open PV

def isTmp (d : Nat) : Operand → Bool
  | .tmp t => t == d
  | _ => false
def dstAt (ops : Array Oper) (j : Nat) : Option Nat := (ops[j]?).bind (·.dst)
/-- What a region's operations look at comes before them in any order. -/
def drawOk (ops : Array Oper) : Bool :=
  (List.range ops.size).all fun i => match ops[i]? with
    | none => true
    | some o => o.after.toList.all (fun e => !Region.binds .any e || decide (e.on < i)) &&
      ((match o.guard with
        | some (g, _) => o.after.toList.any fun e => Region.binds .any e && e.on == g
        | none => true) &&
      (List.range ops.size).all fun j => match dstAt ops j with
        | none => true
        | some d => (j == i || o.dst != some d) && ((!(o.op.operands.toList.any (isTmp d)) || o.after.toList.any fun e => Region.binds .any e && e.on == j) || (match ops[j]? with
            | some oj => oj.after.toList.any fun e => Region.binds .any e && e.on == i
            | none => false)))

mutual
/-- A handle's root under another name. -/
def PV.ren (ρ : Nat → Nat) : PV → PV
  | .own r => .own (ρ r)
  | .addr r i o => .addr (ρ r) i o
  | .vw r a b => .vw (ρ r) a b
  | .agg cs => .agg (PV.renL ρ cs)
  | .fn f cs => .fn f (PV.renL ρ cs)
  | .tup cs => .tup (PV.renL ρ cs)
  | pv => pv
def PV.renL (ρ : Nat → Nat) : List PV → List PV
  | [] => []
  | c :: cs => PV.ren ρ c :: PV.renL ρ cs
end
mutual
/-- Handles stand where 'ren' finds them. -/
def PV.okr : PV → Prop
  | .sl es => PV.freeL es
  | .slo _ es => PV.freeL es
  | .pro cs => PV.freeL cs
  | .pto cs => PV.freeL cs
  | .agg cs => PV.okrL cs
  | .fn _ cs => PV.okrL cs
  | .tup cs => PV.okrL cs
  | _ => True
def PV.okrL : List PV → Prop
  | [] => True
  | c :: cs => PV.okr c ∧ PV.okrL cs
end
/-- The state at the head of a loop, or behind a cut: the named temporaries, the roots 0, 1, .. -/
def mkSt (ts : List (Nat × PV)) (rs : List PV) : St := ⟨fun t => (ts.lookup t).getD .undef, fun r => (rs[r]?).map fun pv => ⟨pv, []⟩, rs.length⟩
/-- A value that leaves the frame: what it owns goes with it. -/
def exp1 (s : Nat → Option Root) : PV → Option (PV × List Nat)
  | .own r => foldR s 4 r
  | .addr r 0 0 => match foldR s 4 r with
    | some (.pto cs, l) => some (.pto cs, l)
    | _ => none
  | .addr _ _ _ => none
  | .agg cs => (inl s cs).map fun x => (.agg x.1, x.2)
  | .undef => none
  | .tup _ => none
  | .vw _ _ _ => none
  | pv => some (pv, [])

mutual
/-- It shows no memory that is only read. -/
def PV.noR : PV → Prop
  | .sl es => es = []
  | .pro _ => False
  | .agg cs => PV.noRL cs
  | .tup cs => PV.noRL cs
  | .fn _ cs => PV.noRL cs
  | .slo _ es => PV.noRL es
  | .pto cs => PV.noRL cs
  | _ => True
def PV.noRL : List PV → Prop
  | [] => True
  | c :: cs => PV.noR c ∧ PV.noRL cs
end

/-- The value of a result variable. -/
def expRV (E : Env) (s : St) : ResultVar → Option (PV × List Nat)
  | .tmp t => exp1 s.store (ev E s (.tmp t))
  | .cell t ty => match E.T ty, ev E s (.tmp t) with
    | some i, .addr r 0 0 => match foldR s.store 4 r with
      | some (.pto cs, l) => if cs.length = i.size then some (if isAggT i then .agg cs else cs.headD .undef, l) else none
      | _ => none
    | _, _ => none
/-- A view that leaves the frame is only read from then on. -/
def expVW (E : Env) (s : St) : ResultVar → Option (PV × List Nat)
  | .tmp t => match ev E s (.tmp t) with
    | .vw r a b => roLeaf s.store (.vw r a b)
    | _ => none
  | .cell _ _ => none
def ExpZ (x : Option (PV × List Nat)) (res : PV) (K : List Nat → List Nat → Prop) : Prop :=
  match x with
  | none => False
  | some (v, l) => res = v ∧ K [] l
/-- As the answer res: what it owns is handed on, or only read from then on. -/
def ExpK (x : Option (PV × List Nat)) (res : PV) (K : List Nat → List Nat → Prop) : Prop :=
  match x with
  | none => False
  | some (pv', l) => ((res = pv' ∨ (pv' = .nilS ∧ ∃ sz, res = .slo sz [])) ∧ K l []) ∨ (res = pv'.strip ∧ K [] l)
def ExpL (E : Env) (s : St) : List ResultVar → List PV → (List Nat → List Nat → Prop) → Prop
  | [], [], K => K [] []
  | t :: ts, p :: ps, K => (ExpK (expRV E s t) p fun l f => ExpL E s ts ps fun l' f' => K (l ++ l') (f ++ f')) ∨ (ExpZ (expVW E s t) p fun l f => ExpL E s ts ps fun l' f' => K (l ++ l') (f ++ f'))
  | _, _, _ => False
/-- What is given back. -/
def BackL (s : St) : Nat → List (Option PV) → (List Nat → Prop) → Prop
  | _, [], K => K []
  | i, none :: bs, K => BackL s (i + 1) bs K
  | i, some p :: bs, K => match exp1 s.store (s.temps (gBase + i)) with
    | some (pv', l) => (p = pv' ∧ p.free) ∧ BackL s (i + 1) bs fun l' => K (l ++ l')
    | none => False
def noRB : List (Option PV) → Prop
  | [] => True
  | none :: bs => noRB bs
  | some p :: bs => p.noR ∧ noRB bs
def Fin (E : Env) (ts : List ResultVar) (res : PV) (bks : List (Option PV)) (al : Bool) (s : St) : Prop :=
  (∃ ps, (match ts with
    | [_] => ps = [res]
    | _ => res = .tup ps) ∧ ExpL E s ts ps fun lo lf => BackL s 0 bks fun lb => (lo ++ lb).Nodup ∧ ∀ r ∈ lf, r ∉ lo ++ lb) ∧ res.free ∧ (al = false → res.noR ∧ noRB bks)

/-- The frame's state when the call begins. -/
def isOwn : PV → Bool
  | .slo _ _ => true
  | .pto _ => true
  | .agg cs => cs.any PV.isSlo
  | _ => false
def entry (args : List PV) : St := ⟨fun t => if t < gBase then ((impL args 0).1[t]?).getD .void else if ((args[t - gBase]?).any isOwn) = true then ((impL args 0).1[t - gBase]?).getD .undef else .undef, fun r => ((impL args 0).2[r]?).map fun x => ⟨x.2, []⟩, (impL args 0).2.length⟩


/-- What a call answers: what is given back, and the result. -/
structure Ans where
  bks : List (Option PV)
  res : PV

/-- What the machine knows of the function that it runs: its result variables, the element sizes of those that are slices, how it is called, and which temporaries live at the head of a loop (2 * its block) or behind a block (2 * the block + 1). -/
structure Fx where
  ts : List ResultVar
  ns : List Nat
  cm : CM
  L : Nat → Option (List Nat)

inductive Fr where
  | seq (c : Code)
  | blk (id : Nat)
  | loop (c : Code)

inductive Conf where
  | run (c : Code) (st : St) (ks : List Fr)
  | ops (all : Array Oper) (l : List Oper) (st : St) (ks : List Fr)
  | dops (all : Array Oper) (i : Nat) (l : List Oper) (log : List (Nat × List Nat × List Nat)) (st : St) (ks : List Fr)
  | back (st : St) (ks : List Fr)
  | exit (id : Nat) (st : St) (ks : List Fr)
  | head (c : Code) (st : St) (ks : List Fr)

/-! ### What a call does -/
def retE (E : Env) (st : St) (f : Nat) (a : Args) : Option Ans → Option (Prop × Eff)
  | none => none
  | some ans => match backs a.vs a.back ans.bks with
    | none => none
    | some l => some (PV.freeL a.vs ∧ a.gone.Nodup ∧ ∀ r ∈ a.ro, r ∉ a.gone,
        ⟨(impF (E.M f).frz ans.res st.next).1, a.gone ++ (if (E.M f).al then a.ro else []), l ++ (impF (E.M f).frz ans.res st.next).2.map (fun x => (x.1, ⟨x.2, []⟩)), st.next + (impF (E.M f).frz ans.res st.next).2.length⟩)
def callE (call : Nat → List PV → Option Ans) (E : Env) (st : St) (f : Nat) (xs : List PV) : Option (Prop × Eff) :=
  match mkArgs st.store (E.M f).modes xs with
  | none => none
  | some a => retE E st f a (call f a.vs)
def opR (call : Nat → List PV → Option Ans) (E : Env) (st : St) (o : Op) : Option (Prop × Eff) :=
  match o with
  | .call ⟨.value f, args, _⟩ => match ev E st f with
    | .fn g caps => callE call E st g (args.toList.map (ev E st) ++ caps)
    | _ => none
  | o => eff E st o

/-! ### What lives at the head of a loop -/
def addH (r : Nat) : List Nat → List Nat
  | [] => [r]
  | q :: hs => if q = r then q :: hs else q :: addH r hs
def dedup : List Nat → List Nat → List Nat
  | [], acc => acc
  | r :: rs, acc => dedup rs (addH r acc)
def idx (r : Nat) : List Nat → Nat
  | [] => 0
  | q :: hs => if q = r then 0 else idx r hs + 1
def foldAll (s : Nat → Option Root) : List Nat → Option (List PV × List Nat)
  | [] => some ([], [])
  | r :: rs => match foldR s 4 r, foldAll s rs with
    | some (pv, l), some (pvs, l') => some (pv :: pvs, l ++ l')
    | _, _ => none
def pairsOf (hs : List Nat) (st : St) : List Nat → List (Nat × PV)
  | [] => []
  | t :: ts => (t, (st.temps t).ren (fun r => idx r hs)) :: pairsOf hs st ts
/-- The condition under which the cut is one, and the state behind it. -/
def cutS (L : List Nat) (st : St) : Option (Prop × St) :=
  match foldAll st.store (dedup (handsL (L.map st.temps)) []) with
  | none => none
  | some (pvs, l) => some (l.Nodup ∧ PV.freeL pvs ∧ PV.okrL (L.map st.temps), mkSt (pairsOf (dedup (handsL (L.map st.temps)) []) st L) pvs)

/-! ### What the end of the function answers -/
def nilTo (sz : Nat) : PV → PV
  | .nilS => .slo sz []
  | p => p
def expAll (E : Env) (s : St) : List ResultVar → List Nat → Option (List PV × List Nat)
  | [], _ => some ([], [])
  | t :: ts, ns => match expRV E s t, expAll E s ts ns.tail with
    | some (pv, l), some (pvs, l') => some (nilTo (ns.headD 0) pv :: pvs, l ++ l')
    | _, _ => none
/-- What is only read from then on. -/
def frz1 (E : Env) (s : St) (t : ResultVar) : Option (PV × List Nat) := match expVW E s t with
  | some x => some x
  | none => (expRV E s t).map fun x => (x.1.strip, x.2)
def frzAll (E : Env) (s : St) : List ResultVar → Option (List PV × List Nat)
  | [] => some ([], [])
  | t :: ts => match frz1 E s t, frzAll E s ts with
    | some (pv, l), some (pvs, l') => some (pv :: pvs, l ++ l')
    | _, _ => none
def backAll (s : St) : Nat → List Nat → Option (List (Option PV) × List Nat)
  | _, [] => some ([], [])
  | i, m :: ms => match backAll s (i + 1) ms with
    | none => none
    | some (bs, l) => if m = 1 then (match exp1 s.store (s.temps (gBase + i)) with
      | some (p, l') => some (some p :: bs, l' ++ l)
      | none => none) else some (none :: bs, l)
def freeB : List (Option PV) → Prop
  | [] => True
  | none :: bs => freeB bs
  | some p :: bs => p.free ∧ freeB bs
def mkRes : List ResultVar → List PV → PV
  | [_], ps => ps.headD .undef
  | _, ps => .tup ps
/-- The answer, and the condition under which it is one. -/
def finR (E : Env) (F : Fx) (st : St) : Option (Prop × Ans) :=
  if F.cm.frz then (match frzAll E st F.ts, backAll st 0 F.cm.modes with
    | some (ps, l), some (bks, lb) => some (lb.Nodup ∧ (∀ r ∈ l, r ∉ lb) ∧ freeB bks ∧ PV.freeL ps ∧ (F.cm.al = false → PV.noRL ps ∧ noRB bks), ⟨bks, mkRes F.ts ps⟩)
    | _, _ => none)
  else match expAll E st F.ts F.ns, backAll st 0 F.cm.modes with
    | some (ps, l), some (bks, lb) => some ((l ++ lb).Nodup ∧ freeB bks ∧ PV.freeL ps ∧ (F.cm.al = false → PV.noRL ps ∧ noRB bks), ⟨bks, mkRes F.ts ps⟩)
    | _, _ => none

/-! ### The order of a region's operations -/
/-- Operations that look at no memory. -/
def storeless : Op → Bool
  | .move _ | .assign _ | .pick _ _ _ | .extract _ _ | .build _ _ | .nilCheck _ | .fieldAddr _ _ _ | .field _ _ _ | .binOp _ _ _ _ _ | .unOp _ _ _ | .alloc _ | .makeSlice _ _ _ | .index _ _ _ => true
  | _ => false
def touchOp (E : Env) (st : St) (o : Op) : List Nat := if storeless o then [] else touch st.store (valsOf E st o)
def addLog (i : Nat) (T W : List Nat) (log : List (Nat × List Nat × List Nat)) : List (Nat × List Nat × List Nat) := if (T ++ W).isEmpty then log else (i, T ++ W, W) :: log
def Eff.W (e : Eff) : List Nat := e.rem ++ e.add.map (·.1)
def disjB (W T : List Nat) : Bool := W.all fun r => !T.contains r
def orderedB (ops : Array Oper) (i j : Nat) : Bool := ((Region.before ops).getD j 0).testBit i || ((Region.before ops).getD i 0).testBit j
def logOk (ops : Array Oper) (log : List (Nat × List Nat × List Nat)) : Bool :=
  log.all fun x => x.2.2.isEmpty || log.all fun y => x.1 == y.1 || (disjB x.2.2 y.2.1 || orderedB ops x.1 y.1)

/-! ### The steps -/
def St.skip (st : St) (dst : Option Nat) : St := ⟨st.put dst .void, st.store, st.next⟩
def St.setT (st : St) (d : Nat) (v : PV) : St := ⟨upd st.temps d v, st.store, st.next⟩
def loopKey : List Fr → Nat
  | .blk id :: _ => 2 * id
  | _ => 0
open Classical in
noncomputable def ifP {α β : Type} (x : Option (Prop × α)) (K : α → Option β) : Option β := match x with
  | some (p, e) => if p then K e else none
  | none => none
noncomputable def enter (F : Fx) (c : Code) (st : St) (ks : List Fr) : Option (Conf ⊕ Ans) := match F.L (loopKey ks) with
  | some L => ifP (cutS L st) fun s => some (.inl (.head c s ks))
  | none => none
noncomputable def finish (E : Env) (F : Fx) (st : St) : Option (Conf ⊕ Ans) := ifP (finR E F st) fun a => some (.inr a)
noncomputable def runO (call : Nat → List PV → Option Ans) (E : Env) (o : Oper) (st : St) (K : St → Conf) : Option (Conf ⊕ Ans) := ifP (opR call E st o.op) fun e => some (.inl (K (st.app o.dst e)))
noncomputable def runD (call : Nat → List PV → Option Ans) (E : Env) (o : Oper) (i : Nat) (log : List (Nat × List Nat × List Nat)) (st : St) (K : List (Nat × List Nat × List Nat) → St → Conf) : Option (Conf ⊕ Ans) :=
  ifP (opR call E st o.op) fun e => some (.inl (K (addLog i (touchOp E st o.op) e.W log) (st.app o.dst e)))
noncomputable def step (call : Nat → List PV → Option Ans) (E : Env) (F : Fx) : Conf → Option (Conf ⊕ Ans)
  | .run c st ks => match c with
    | .skip => some (.inl (.back st ks))
    | .region _ ops false => some (.inl (.ops ops ops.toList st ks))
    | .region _ ops true => some (.inl (.dops ops 0 ops.toList [] st ks))
    | .seq a b => some (.inl (.run a st (.seq b :: ks)))
    | .cond c a b => match ev E st c with
      | .bool t => some (.inl (if t then .run a st ks else .run b st ks))
      | _ => none
    | .block id c => some (.inl (.run c st (.blk id :: ks)))
    | .loop c => enter F c st ks
    | .exit id => some (.inl (.exit id st ks))
    | .ret => finish E F st
    | _ => none
  | .head c st ks => some (.inl (.run c st (.loop c :: ks)))
  | .back st ks => match ks with
    | [] => finish E F st
    | .seq c :: ks => some (.inl (.run c st ks))
    | .blk id :: ks => some (.inl (.back st ks))
    | .loop c :: ks => enter F c st ks
  | .exit id st ks => match ks with
    | [] => none
    | .blk i :: ks => if i = id then (match F.L (2 * id + 1) with
      | some L => ifP (cutS L st) fun s => some (.inl (.back s ks))
      | none => some (.inl (.back st ks))) else some (.inl (.exit id st ks))
    | _ :: ks => some (.inl (.exit id st ks))
  | .ops all l st ks => match l with
    | [] => some (.inl (.back st ks))
    | o :: l => match o.guard with
      | none => runO call E o st fun s => .ops all l s ks
      | some (j, want) => match dstAt all j with
        | some d => match ev E st (.tmp d) with
          | .bool b => if b = want then runO call E o (st.setT d (.bool want)) fun s => .ops all l s ks else some (.inl (.ops all l ((st.setT d (.bool (!want))).skip o.dst) ks))
          | .void => some (.inl (.ops all l (st.skip o.dst) ks))
          | _ => none
        | none => none
  | .dops all i l log st ks => match l with
    | [] => if logOk all log = true then some (.inl (.back st ks)) else none
    | o :: l => match o.guard with
      | none => runD call E o i log st fun log s => .dops all (i + 1) l log s ks
      | some (j, want) => match dstAt all j with
        | some d => match ev E st (.tmp d) with
          | .bool b => if b = want then runD call E o i log (st.setT d (.bool want)) fun log s => .dops all (i + 1) l log s ks else some (.inl (.dops all (i + 1) l log ((st.setT d (.bool (!want))).skip o.dst) ks))
          | .void => some (.inl (.dops all (i + 1) l log (st.skip o.dst) ks))
          | _ => none
        | none => none

/-! ### The run -/
def dstB (n : Nat) : Option Nat → Bool
  | some d => decide (d < n) && decide (d < gBase)
  | none => true
def codeOk (n : Nat) : Code → Bool
  | .region _ ops d => ops.toList.all (fun o => dstB n o.dst) && (!d || drawOk ops)
  | .seq a b => codeOk n a && codeOk n b
  | .cond _ a b => codeOk n a && codeOk n b
  | .block _ c => codeOk n c
  | .loop c => codeOk n c
  | _ => true
def fnChk (fu : Func) (c : Code) : Bool := codeOk fu.ntmps c && !(fu.name == "runtime.NumGoroutine")
def nilSz (E : Env) (t : Nat) : Nat := match E.T t with
  | some ⟨.slice e, _, _, _⟩ => match E.T e with
    | some i => i.size
    | none => 0
  | _ => 0
def fxOf (E : Env) (X : Nat → Nat → Option (List Nat)) (f : Nat) (fu : Func) : Fx := ⟨fu.results.toList, fu.resultTypes.toList.map (nilSz E), E.M f, X f⟩

/-- What the machine runs over. -/
structure Sys where
  P : Program
  E : Env
  X : Nat → Nat → Option (List Nat)
  lib : Nat → List PV → Option Ans

def callOf (S : Sys) (ex : Fx → Conf → Option Ans) (f : Nat) (xs : List PV) : Option Ans :=
  match S.lib f xs with
  | some a => some a
  | none => match S.P.funcs[f]? with
    | none => none
    | some fu => match fu.body with
      | none => none
      | some c => if fnChk fu c = true ∧ (S.E.M f).modes.length = xs.length ∧ xs.length ≤ fu.ntmps then ex (fxOf S.E S.X f fu) (.run c (entry xs) []) else none
noncomputable def ex (S : Sys) : Nat → Fx → Conf → Option Ans
  | 0, _, _ => none
  | k + 1, F, c => match step (callOf S (ex S k)) S.E F c with
    | none => none
    | some (.inl c') => ex S k F c'
    | some (.inr a) => some a
open Classical in
/-- The answer of a call. -/
noncomputable def R (S : Sys) (f : Nat) (xs : List PV) : Option Ans := if h : ∃ a k, callOf S (ex S k) f xs = some a then some h.choose else none
def Ends (S : Sys) (F : Fx) (c : Conf) (a : Ans) : Prop := ∃ k, ex S k F c = some a

end Go.Proofs.YtanbccpabgcmaaaGreatDoor.PVE
