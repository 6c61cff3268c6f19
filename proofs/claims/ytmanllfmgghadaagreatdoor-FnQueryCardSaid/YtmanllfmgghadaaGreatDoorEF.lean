/- The PV engine, part 20: the machine: what a function's code does to the pure state, step by step. -/
import Derived.Test.YtmanllfmgghadaaGreatDoorED
import Derived.Still
import Derived.Deep.LoopGhost
set_option linter.unusedVariables false
set_option linter.unusedSimpArgs false
set_option linter.unusedSectionVars false
namespace Go.Proofs.YtmanllfmgghadaaGreatDoor.PVE
open PV
def isTmp (d : Nat) : Operand → Bool
  | .tmp t => t == d
  | _ => false
def dstAt (ops : Array Oper) (j : Nat) : Option Nat := (ops[j]?).bind (·.dst)
def drawOk (ops : Array Oper) : Bool :=
  (List.range ops.size).all fun i => match ops[i]? with
    | none => true
    | some o => o.after.toList.all (fun e => !Region.binds .any e || decide (e.on < i)) &&
      ((match o.guard with
        | some (g, _) => o.after.toList.any fun e => Region.binds .any e && e.on == g
        | none => true) &&
      (List.range ops.size).all fun j => match dstAt ops j with
        | none => true
        | some d => (j == i || o.dst != some d) && ((!(o.op.operands.toList.any (isTmp d)) || o.after.toList.any fun e => Region.binds .any e && e.on == j) || (match ops[j]? with
            | some oj => oj.after.toList.any fun e => Region.binds .any e && e.on == i
            | none => false)))
mutual
def PV.ren (ρ : Nat → Nat) : PV → PV
  | .own r => .own (ρ r)
  | .addr r i o => .addr (ρ r) i o
  | .vw r a b => .vw (ρ r) a b
  | .agg cs => .agg (PV.renL ρ cs)
  | .fn f cs => .fn f (PV.renL ρ cs)
  | .tup cs => .tup (PV.renL ρ cs)
  | pv => pv
def PV.renL (ρ : Nat → Nat) : List PV → List PV
  | [] => []
  | c :: cs => PV.ren ρ c :: PV.renL ρ cs
end
mutual
def PV.okr : PV → Prop
  | .sl es => PV.freeL es
  | .slo _ es => PV.freeL es
  | .pro cs => PV.freeL cs
  | .pto cs => PV.freeL cs
  | .agg cs => PV.okrL cs
  | .fn _ cs => PV.okrL cs
  | .tup cs => PV.okrL cs
  | .mp _ es => PV.freeL es
  | _ => True
def PV.okrL : List PV → Prop
  | [] => True
  | c :: cs => PV.okr c ∧ PV.okrL cs
end
def mkSt (ts : List (Nat × PV)) (rs : List PV) : St := ⟨fun t => (ts.lookup t).getD .undef, fun r => (rs[r]?).map fun pv => ⟨pv, []⟩, rs.length⟩
def exp1 (s : Nat → Option Root) : PV → Option (PV × List Nat)
  | .own r => foldR s 4 r
  | .addr r 0 0 => match foldR s 4 r with
    | some (.pto cs, l) => some (.pto cs, l)
    | _ => none
  | .addr _ _ _ => none
  | .agg cs => (inl s cs).map fun x => (.agg x.1, x.2)
  | .undef => none
  | .tup _ => none
  | .vw _ _ _ => none
  | .mp _ _ => none
  | pv => some (pv, [])
mutual
def PV.noR : PV → Prop
  | .sl es => es = []
  | .pro _ => False
  | .agg cs => PV.noRL cs
  | .tup cs => PV.noRL cs
  | .fn _ cs => PV.noRL cs
  | .slo _ es => PV.noRL es
  | .pto cs => PV.noRL cs
  | .mp _ es => PV.noRL es
  | _ => True
def PV.noRL : List PV → Prop
  | [] => True
  | c :: cs => PV.noR c ∧ PV.noRL cs
end
def expRV (E : Env) (s : St) : ResultVar → Option (PV × List Nat)
  | .tmp t => exp1 s.store (ev E s (.tmp t))
  | .cell t ty => match E.T ty, ev E s (.tmp t) with
    | some i, .addr r 0 0 => match foldR s.store 4 r with
      | some (.pto cs, l) => if cs.length = i.size then some (if isAggT i then .agg cs else cs.headD .undef, l) else none
      | _ => none
    | _, _ => none
def expVW (E : Env) (s : St) : ResultVar → Option (PV × List Nat)
  | .tmp t => match ev E s (.tmp t) with
    | .vw r a b => roLeaf s.store (.vw r a b)
    | _ => none
  | .cell _ _ => none
def ExpZ (x : Option (PV × List Nat)) (res : PV) (K : List Nat → List Nat → Prop) : Prop :=
  match x with
  | none => False
  | some (v, l) => res = v ∧ K [] l
def ExpK (x : Option (PV × List Nat)) (res : PV) (K : List Nat → List Nat → Prop) : Prop :=
  match x with
  | none => False
  | some (pv', l) => ((res = pv' ∨ (pv' = .nilS ∧ ∃ sz, res = .slo sz [])) ∧ K l []) ∨ (res = pv'.strip ∧ K [] l)
def ExpL (E : Env) (s : St) : List ResultVar → List PV → (List Nat → List Nat → Prop) → Prop
  | [], [], K => K [] []
  | t :: ts, p :: ps, K => (ExpK (expRV E s t) p fun l f => ExpL E s ts ps fun l' f' => K (l ++ l') (f ++ f')) ∨ (ExpZ (expVW E s t) p fun l f => ExpL E s ts ps fun l' f' => K (l ++ l') (f ++ f'))
  | _, _, _ => False
def BackL (s : St) : Nat → List (Option PV) → (List Nat → Prop) → Prop
  | _, [], K => K []
  | i, none :: bs, K => BackL s (i + 1) bs K
  | i, some p :: bs, K => match exp1 s.store (s.temps (gBase + i)) with
    | some (pv', l) => (p = pv' ∧ p.free) ∧ BackL s (i + 1) bs fun l' => K (l ++ l')
    | none => False
def noRB : List (Option PV) → Prop
  | [] => True
  | none :: bs => noRB bs
  | some p :: bs => p.noR ∧ noRB bs
def Fin (E : Env) (ts : List ResultVar) (res : PV) (bks : List (Option PV)) (al : Bool) (s : St) : Prop :=
  (∃ ps, (match ts with
    | [_] => ps = [res]
    | _ => res = .tup ps) ∧ ExpL E s ts ps fun lo lf => BackL s 0 bks fun lb => (lo ++ lb).Nodup ∧ ∀ r ∈ lf, r ∉ lo ++ lb) ∧ res.free ∧ (al = false → res.noR ∧ noRB bks)
def isOwn : PV → Bool
  | .slo _ _ => true
  | .pto _ => true
  | .agg cs => cs.any PV.isSlo
  | _ => false
def entry (args : List PV) : St := ⟨fun t => if t < gBase then ((impL args 0).1[t]?).getD .void else if ((args[t - gBase]?).any isOwn) = true then ((impL args 0).1[t - gBase]?).getD .undef else .undef, fun r => ((impL args 0).2[r]?).map fun x => ⟨x.2, []⟩, (impL args 0).2.length⟩
structure Ans where
  bks : List (Option PV)
  res : PV
structure Fx where
  ts : List ResultVar
  ns : List Nat
  cm : CM
  L : Nat → Option (List Nat)
inductive Fr where
  | seq (c : Code)
  | blk (id : Nat)
  | loop (c : Code)
inductive Conf where
  | run (c : Code) (st : St) (ks : List Fr)
  | ops (all : Array Oper) (l : List Oper) (st : St) (ks : List Fr)
  | dops (all : Array Oper) (i : Nat) (l : List Oper) (log : List (Nat × List Nat × List Nat)) (st : St) (ks : List Fr)
  | back (st : St) (ks : List Fr)
  | exit (id : Nat) (st : St) (ks : List Fr)
  | head (c : Code) (st : St) (ks : List Fr)
  | amb (cs : List Conf)
def retE (E : Env) (st : St) (f : Nat) (hs : List Nat) (a : Args) : Option Ans → Option (Prop × Eff)
  | none => none
  | some ans => match backs a.vs a.back ans.bks with
    | none => none
    | some l => some (PV.freeL a.vs ∧ a.gone.Nodup ∧ ∀ r ∈ a.ro, r ∉ a.gone,
        ⟨(impF (E.M f).frz ans.res st.next).1, a.gone ++ (if (E.M f).al then a.ro else []), l ++ (impF (E.M f).frz ans.res st.next).2.map (fun x => (x.1, ⟨x.2, []⟩)) ++ (if (E.M f).al then frzRo st.store hs else []), st.next + (impF (E.M f).frz ans.res st.next).2.length⟩)
def callE (call : Nat → List PV → Option Ans) (E : Env) (st : St) (f : Nat) (xs : List PV) : Option (Prop × Eff) :=
  match mkArgs st.store (E.M f).modes xs with
  | none => none
  | some a => retE E st f (hands0 (E.M f).modes xs) a (call f a.vs)
def opR (call : Nat → List PV → Option Ans) (E : Env) (st : St) (o : Op) : Option (Prop × Eff) :=
  match o with
  | .call ⟨.value f, args, _⟩ => match ev E st f with
    | .fn g caps => callE call E st g (args.toList.map (ev E st) ++ caps)
    | _ => none
  | o => eff E st o
def pickKV : List PV → List (PV × PV × List PV)
  | k :: v :: es => (k, v, es) :: (pickKV es).map fun x => (x.1, x.2.1, k :: v :: x.2.2)
  | _ => []
def mpLeft : Nat → List PV → List PV
  | 1, es => es
  | _, es => es.drop 2
def nextO (st : St) (r : Nat) (es : List PV) : List Eff := match es with
  | [] => [⟨.tup [.bool false], [], [], st.next⟩]
  | es => (pickKV es).map fun x => ⟨.tup [.bool true, .undef, .undef], [], [(r, ⟨.mp 2 (x.1 :: x.2.1 :: x.2.2), []⟩)], st.next⟩
def nextV (st : St) (x : PV) : Option (List Eff) := match x with
  | .own r => match st.store r with
    | some ⟨.mp (it + 1) es, []⟩ => some (nextO st r (mpLeft (it + 1) es))
    | _ => none
  | _ => none
def nextE (E : Env) (st : St) (o : Op) : Option (List Eff) := match o with
  | .next x false => nextV st (ev E st x)
  | _ => none
def addH (r : Nat) : List Nat → List Nat
  | [] => [r]
  | q :: hs => if q = r then q :: hs else q :: addH r hs
def dedup : List Nat → List Nat → List Nat
  | [], acc => acc
  | r :: rs, acc => dedup rs (addH r acc)
def idx (r : Nat) : List Nat → Nat
  | [] => 0
  | q :: hs => if q = r then 0 else idx r hs + 1
def foldAll (s : Nat → Option Root) : List Nat → Option (List PV × List Nat)
  | [] => some ([], [])
  | r :: rs => match foldR s 4 r, foldAll s rs with
    | some (pv, l), some (pvs, l') => some (pv :: pvs, l ++ l')
    | _, _ => none
def pairsOf (hs : List Nat) (st : St) : List Nat → List (Nat × PV)
  | [] => []
  | t :: ts => (t, (st.temps t).ren (fun r => idx r hs)) :: pairsOf hs st ts
def cutS (L : List Nat) (st : St) : Option (Prop × St) :=
  match foldAll st.store (dedup (handsL (L.map st.temps)) []) with
  | none => none
  | some (pvs, l) => some (l.Nodup ∧ PV.freeL pvs ∧ PV.okrL (L.map st.temps), mkSt (pairsOf (dedup (handsL (L.map st.temps)) []) st L) pvs)
def nilTo (sz : Nat) : PV → PV
  | .nilS => .slo sz []
  | p => p
def expAll (E : Env) (s : St) : List ResultVar → List Nat → Option (List PV × List Nat)
  | [], _ => some ([], [])
  | t :: ts, ns => match expRV E s t, expAll E s ts ns.tail with
    | some (pv, l), some (pvs, l') => some (nilTo (ns.headD 0) pv :: pvs, l ++ l')
    | _, _ => none
def frz1 (E : Env) (s : St) (t : ResultVar) : Option (PV × List Nat) := match expVW E s t with
  | some x => some x
  | none => (expRV E s t).map fun x => (x.1.strip, x.2)
def frzAll (E : Env) (s : St) : List ResultVar → Option (List PV × List Nat)
  | [] => some ([], [])
  | t :: ts => match frz1 E s t, frzAll E s ts with
    | some (pv, l), some (pvs, l') => some (pv :: pvs, l ++ l')
    | _, _ => none
def backAll (s : St) : Nat → List Nat → Option (List (Option PV) × List Nat)
  | _, [] => some ([], [])
  | i, m :: ms => match backAll s (i + 1) ms with
    | none => none
    | some (bs, l) => if m = 1 then (match exp1 s.store (s.temps (gBase + i)) with
      | some (p, l') => some (some p :: bs, l' ++ l)
      | none => none) else some (none :: bs, l)
def freeB : List (Option PV) → Prop
  | [] => True
  | none :: bs => freeB bs
  | some p :: bs => p.free ∧ freeB bs
def mkRes : List ResultVar → List PV → PV
  | [_], ps => ps.headD .undef
  | _, ps => .tup ps
def finR (E : Env) (F : Fx) (st : St) : Option (Prop × Ans) :=
  if F.cm.frz then (match frzAll E st F.ts, backAll st 0 F.cm.modes with
    | some (ps, l), some (bks, lb) => some (lb.Nodup ∧ (∀ r ∈ l, r ∉ lb) ∧ freeB bks ∧ PV.freeL ps ∧ (F.cm.al = false → PV.noRL ps ∧ noRB bks), ⟨bks, mkRes F.ts ps⟩)
    | _, _ => none)
  else match expAll E st F.ts F.ns, backAll st 0 F.cm.modes with
    | some (ps, l), some (bks, lb) => some ((l ++ lb).Nodup ∧ freeB bks ∧ PV.freeL ps ∧ (F.cm.al = false → PV.noRL ps ∧ noRB bks), ⟨bks, mkRes F.ts ps⟩)
    | _, _ => none
def storeless : Op → Bool
  | .move _ | .assign _ | .pick _ _ _ | .extract _ _ | .build _ _ | .nilCheck _ | .fieldAddr _ _ _ | .field _ _ _ | .binOp _ _ _ _ _ | .unOp _ _ _ | .alloc _ | .makeSlice _ _ _ | .index _ _ _ => true
  | _ => false
def softOp : Op → Bool
  | .slice _ _ _ _ _ | .indexAddr _ _ _ => true
  | .call c => match c.callee with
    | .builtin .len => true
    | _ => false
  | _ => false
def isLoad : Op → Bool
  | .load _ _ => true
  | _ => false
def touchOp (E : Env) (st : St) (o : Op) : List Nat := if storeless o = true then [] else if softOp o = true then (handsL (valsOf E st o)).map (fun r => 2 * r + 1) else if isLoad o = true then (handsL (valsOf E st o)).map (fun r => 2 * r) else (touch st.store (valsOf E st o)).map (fun r => 2 * r)
def softN (n : Nat) (hs : List Nat) (r : Nat) : List Nat := if (hs.contains r || r == n) = true then [] else [r]
def softV (n : Nat) (s x : PV) : List Nat := match x with
  | .vw r _ _ => softN n (hands s) r
  | _ => []
def softA : PV → List Nat
  | .addr r _ _ => [r]
  | _ => []
def softW (E : Env) (st : St) : Op → List Nat
  | .store _ a _ => softA (ev E st a)
  | .call c => match c.callee, c.args.toList with
    | .builtin .append, [s, x] => softV st.next (ev E st s) (ev E st x)
    | _, _ => []
  | _ => []
def wTok (sw W : List Nat) : List Nat := W.map (fun r => 2 * r) ++ (W.filter fun r => !sw.contains r).map (fun r => 2 * r + 1)
def addLog (i : Nat) (T W : List Nat) (log : List (Nat × List Nat × List Nat)) : List (Nat × List Nat × List Nat) := if (T ++ W).isEmpty then log else (i, T ++ W, W) :: log
def Eff.W (e : Eff) : List Nat := e.rem ++ e.add.map (·.1)
def disjB (W T : List Nat) : Bool := W.all fun r => !T.contains r
def orderedB (ops : Array Oper) (i j : Nat) : Bool := ((Region.before ops).getD j 0).testBit i || ((Region.before ops).getD i 0).testBit j
def logOk (ops : Array Oper) (log : List (Nat × List Nat × List Nat)) : Bool :=
  log.all fun x => x.2.2.isEmpty || log.all fun y => x.1 == y.1 || (disjB x.2.2 y.2.1 || orderedB ops x.1 y.1)
def St.skip (st : St) (dst : Option Nat) : St := ⟨st.put dst .void, st.store, st.next⟩
def St.setT (st : St) (d : Nat) (v : PV) : St := ⟨upd st.temps d v, st.store, st.next⟩
def loopKey : List Fr → Nat
  | .blk id :: _ => 2 * id
  | _ => 0
open Classical in
noncomputable def ifP {α β : Type} (x : Option (Prop × α)) (K : α → Option β) : Option β := match x with
  | some (p, e) => if p then K e else none
  | none => none
noncomputable def enter (F : Fx) (c : Code) (st : St) (ks : List Fr) : Option (Conf ⊕ Ans) := match F.L (loopKey ks) with
  | some L => ifP (cutS L st) fun s => some (.inl (.head c s ks))
  | none => none
noncomputable def finish (E : Env) (F : Fx) (st : St) : Option (Conf ⊕ Ans) := ifP (finR E F st) fun a => some (.inr a)
noncomputable def runO (call : Nat → List PV → Option Ans) (E : Env) (o : Oper) (st : St) (K : St → Conf) : Option (Conf ⊕ Ans) := ifP (opR call E st o.op) fun e => some (.inl (K (st.app o.dst e)))
noncomputable def runD (call : Nat → List PV → Option Ans) (E : Env) (o : Oper) (i : Nat) (log : List (Nat × List Nat × List Nat)) (st : St) (K : List (Nat × List Nat × List Nat) → St → Conf) : Option (Conf ⊕ Ans) :=
  ifP (opR call E st o.op) fun e => some (.inl (K (addLog i (touchOp E st o.op) (wTok (softW E st o.op) e.W) log) (st.app o.dst e)))
noncomputable def step (call : Nat → List PV → Option Ans) (E : Env) (F : Fx) : Conf → Option (Conf ⊕ Ans)
  | .run c st ks => match c with
    | .skip => some (.inl (.back st ks))
    | .region _ ops false => some (.inl (.ops ops ops.toList st ks))
    | .region _ ops true => some (.inl (.dops ops 0 ops.toList [] st ks))
    | .seq a b => some (.inl (.run a st (.seq b :: ks)))
    | .cond c a b => match ev E st c with
      | .bool t => some (.inl (if t then .run a st ks else .run b st ks))
      | _ => none
    | .block id c => some (.inl (.run c st (.blk id :: ks)))
    | .loop c => enter F c st ks
    | .exit id => some (.inl (.exit id st ks))
    | .ret => finish E F st
    | _ => none
  | .head c st ks => some (.inl (.run c st (.loop c :: ks)))
  | .back st ks => match ks with
    | [] => finish E F st
    | .seq c :: ks => some (.inl (.run c st ks))
    | .blk id :: ks => some (.inl (.back st ks))
    | .loop c :: ks => enter F c st ks
  | .exit id st ks => match ks with
    | [] => none
    | .blk i :: ks => if i = id then (match F.L (2 * id + 1) with
      | some L => ifP (cutS L st) fun s => some (.inl (.back s ks))
      | none => some (.inl (.back st ks))) else some (.inl (.exit id st ks))
    | _ :: ks => some (.inl (.exit id st ks))
  | .ops all l st ks => match l with
    | [] => some (.inl (.back st ks))
    | o :: l => match o.guard with
      | none => match nextE E st o.op with
        | some es => some (.inl (.amb (es.map fun e => .ops all l (st.app o.dst e) ks)))
        | none => runO call E o st fun s => .ops all l s ks
      | some (j, want) => match dstAt all j with
        | some d => match ev E st (.tmp d) with
          | .bool b => if b = want then runO call E o (st.setT d (.bool want)) fun s => .ops all l s ks else some (.inl (.ops all l ((st.setT d (.bool (!want))).skip o.dst) ks))
          | .void => some (.inl (.ops all l (st.skip o.dst) ks))
          | _ => none
        | none => none
  | .dops all i l log st ks => match l with
    | [] => if logOk all log = true then some (.inl (.back st ks)) else none
    | o :: l => match o.guard with
      | none => runD call E o i log st fun log s => .dops all (i + 1) l log s ks
      | some (j, want) => match dstAt all j with
        | some d => match ev E st (.tmp d) with
          | .bool b => if b = want then runD call E o i log (st.setT d (.bool want)) fun log s => .dops all (i + 1) l log s ks else some (.inl (.dops all (i + 1) l log ((st.setT d (.bool (!want))).skip o.dst) ks))
          | .void => some (.inl (.dops all (i + 1) l log (st.skip o.dst) ks))
          | _ => none
        | none => none
  | .amb _ => none
def dstB (n : Nat) : Option Nat → Bool
  | some d => decide (d < n) && decide (d < gBase)
  | none => true
def codeOk (n : Nat) : Code → Bool
  | .region _ ops d => ops.toList.all (fun o => dstB n o.dst) && (!d || drawOk ops)
  | .seq a b => codeOk n a && codeOk n b
  | .cond _ a b => codeOk n a && codeOk n b
  | .block _ c => codeOk n c
  | .loop c => codeOk n c
  | _ => true
def fnChk (fu : Func) (c : Code) : Bool := codeOk fu.ntmps c && !(fu.name == "runtime.NumGoroutine")
def nilSz (E : Env) (t : Nat) : Nat := match E.T t with
  | some ⟨.slice e, _, _, _⟩ => match E.T e with
    | some i => i.size
    | none => 0
  | _ => 0
def fxOf (E : Env) (X : Nat → Nat → Option (List Nat)) (f : Nat) (fu : Func) : Fx := ⟨fu.results.toList, fu.resultTypes.toList.map (nilSz E), E.M f, X f⟩
structure Sys where
  P : Program
  E : Env
  X : Nat → Nat → Option (List Nat)
  lib : Nat → List PV → Option Ans
def callOf (S : Sys) (ex : Fx → Conf → Option Ans) (f : Nat) (xs : List PV) : Option Ans :=
  match S.lib f xs with
  | some a => some a
  | none => match S.P.funcs[f]? with
    | none => none
    | some fu => match fu.body with
      | none => none
      | some c => if fnChk fu c = true ∧ (S.E.M f).modes.length = xs.length ∧ xs.length ≤ fu.ntmps then ex (fxOf S.E S.X f fu) (.run c (entry xs) []) else none
open Classical in
noncomputable def ambA (f : Conf → Option Ans) (cs : List Conf) : Option Ans := if h : ∃ a, cs ≠ [] ∧ ∀ c ∈ cs, f c = some a then some h.choose else none
noncomputable def exA (f : Conf → Option Ans) : Conf → Option Ans
  | .amb cs => ambA f cs
  | c => f c
noncomputable def ex (S : Sys) : Nat → Fx → Conf → Option Ans
  | 0, _, _ => none
  | k + 1, F, c => match step (callOf S (ex S k)) S.E F c with
    | none => none
    | some (.inl c') => exA (ex S k F) c'
    | some (.inr a) => some a
open Classical in
noncomputable def R (S : Sys) (f : Nat) (xs : List PV) : Option Ans := if h : ∃ a k, callOf S (ex S k) f xs = some a then some h.choose else none
def Ends (S : Sys) (F : Fx) (c : Conf) (a : Ans) : Prop := ∃ k, ex S k F c = some a
end Go.Proofs.YtmanllfmgghadaaGreatDoor.PVE
namespace Go.Proofs.YtmanllfmgghadaaGreatDoor.PVE
open PV
section
variable {S : Sys} {E : Env} {F : Fx}
theorem ifP_some {α β : Type} {x : Option (Prop × α)} {K : α → Option β} {r : β} : ifP x K = some r ↔ ∃ p e, x = some (p, e) ∧ p ∧ K e = some r := by
  constructor
  · intro h
    unfold ifP at h
    split at h
    · rename_i p e
      split at h
      · rename_i hp
        exact ⟨p, e, rfl, hp, h⟩
      · cases h
    · cases h
  · rintro ⟨p, e, rfl, hp, h⟩
    unfold ifP
    simp only [hp, if_true]
    exact h
def Sub (c c' : Nat → List PV → Option Ans) : Prop := ∀ f xs a, c f xs = some a → c' f xs = some a
theorem callE_mono {c c' : Nat → List PV → Option Ans} (h : Sub c c') {st : St} {f : Nat} {xs : List PV} {pe : Prop × Eff} (he : callE c E st f xs = some pe) : callE c' E st f xs = some pe := by
  unfold callE at he ⊢
  split at he
  · cases he
  · rename_i a ha
    cases hc : c f a.vs with
    | none => rw [hc] at he; simp [retE] at he
    | some ans => rw [h _ _ _ hc]; rw [hc] at he; exact he
theorem opR_call {c : Nat → List PV → Option Ans} {st : St} {f : Operand} {args : Array Operand} {tys : Array Nat} : opR c E st (.call ⟨.value f, args, tys⟩) = (match ev E st f with
    | .fn g caps => callE c E st g (args.toList.map (ev E st) ++ caps)
    | _ => none) := rfl
theorem opR_other {c : Nat → List PV → Option Ans} {st : St} {o : Op} (h : ∀ f args tys, o ≠ .call ⟨.value f, args, tys⟩) : opR c E st o = eff E st o := by
  unfold opR
  split
  · rename_i f args tys
    exact absurd rfl (h f args tys)
  · rfl
theorem op_cases (o : Op) : (∃ f args tys, o = .call ⟨.value f, args, tys⟩) ∨ ∀ f args tys, o ≠ .call ⟨.value f, args, tys⟩ := by
  by_cases h : ∃ f args tys, o = .call ⟨.value f, args, tys⟩
  · exact .inl h
  · exact .inr fun f args tys he => h ⟨f, args, tys, he⟩
theorem opR_mono {c c' : Nat → List PV → Option Ans} (h : Sub c c') {st : St} {o : Op} {pe : Prop × Eff} (he : opR c E st o = some pe) : opR c' E st o = some pe := by
  rcases op_cases o with ⟨f, args, tys, rfl⟩ | ho
  · rw [opR_call] at he ⊢
    split at he
    · rename_i g caps hf
      exact callE_mono h he
    · cases he
  · rw [opR_other ho] at he ⊢
    exact he
theorem ifP_mono {α β : Type} {x x' : Option (Prop × α)} {K : α → Option β} {r : β} (h : ∀ y, x = some y → x' = some y) (he : ifP x K = some r) : ifP x' K = some r := by
  rw [ifP_some] at he ⊢
  obtain ⟨p, e, h1, h2, h3⟩ := he
  exact ⟨p, e, h _ h1, h2, h3⟩
theorem runO_mono {c c' : Nat → List PV → Option Ans} (h : Sub c c') {o : Oper} {st : St} {K : St → Conf} {r : Conf ⊕ Ans} (he : runO c E o st K = some r) : runO c' E o st K = some r := ifP_mono (fun _ => opR_mono h) he
theorem runD_mono {c c' : Nat → List PV → Option Ans} (h : Sub c c') {o : Oper} {i : Nat} {log : List (Nat × List Nat × List Nat)} {st : St} {K : List (Nat × List Nat × List Nat) → St → Conf} {r : Conf ⊕ Ans} (he : runD c E o i log st K = some r) : runD c' E o i log st K = some r := ifP_mono (fun _ => opR_mono h) he
theorem step_mono {c c' : Nat → List PV → Option Ans} (h : Sub c c') {x : Conf} {r : Conf ⊕ Ans} (he : step c E F x = some r) : step c' E F x = some r := by
  cases x with
  | ops all l st ks =>
    cases l with
    | nil => exact he
    | cons o l =>
      simp only [step] at he ⊢
      cases hg : o.guard with
      | none =>
        rw [hg] at he
        simp only at he ⊢
        split at he
        · exact he
        · exact runO_mono h he
      | some g =>
        obtain ⟨j, want⟩ := g
        rw [hg] at he
        simp only at he ⊢
        split at he
        case h_2 => cases he
        split at he
        · split at he
          · rename_i hb; rw [if_pos hb]; exact runO_mono h he
          · rename_i hb; rw [if_neg hb]; exact he
        · exact he
        · cases he
  | dops all i l log st ks =>
    cases l with
    | nil => exact he
    | cons o l =>
      simp only [step] at he ⊢
      cases hg : o.guard with
      | none => rw [hg] at he; exact runD_mono h he
      | some g =>
        obtain ⟨j, want⟩ := g
        rw [hg] at he
        simp only at he ⊢
        split at he
        case h_2 => cases he
        split at he
        · split at he
          · rename_i hb; rw [if_pos hb]; exact runD_mono h he
          · rename_i hb; rw [if_neg hb]; exact he
        · exact he
        · cases he
  | _ => exact he
theorem call_sub {e e' : Fx → Conf → Option Ans} (h : ∀ F c a, e F c = some a → e' F c = some a) : Sub (callOf S e) (callOf S e') := by
  intro f xs a he
  unfold callOf at he ⊢
  split at he
  · exact he
  · rename_i hl
    split at he
    · cases he
    · rename_i fu hf
      split at he
      · cases he
      · rename_i c hb
        split at he
        · rename_i hc
          rw [if_pos hc]
          exact h _ _ _ he
        · cases he
theorem ambA_some {f : Conf → Option Ans} {cs : List Conf} {a : Ans} : ambA f cs = some a ↔ cs ≠ [] ∧ ∀ c ∈ cs, f c = some a := by
  have uniq : ∀ {a b : Ans}, (cs ≠ [] ∧ ∀ c ∈ cs, f c = some a) → (cs ≠ [] ∧ ∀ c ∈ cs, f c = some b) → a = b := by
    intro a b h k
    cases cs with
    | nil => exact absurd rfl h.1
    | cons c cs =>
      have h1 := h.2 c (by simp)
      have h2 := k.2 c (by simp)
      rw [h1] at h2
      exact Option.some.inj h2
  unfold ambA
  constructor
  · intro h
    split at h
    · rename_i hx
      obtain rfl := Option.some.inj h
      exact hx.choose_spec
    · cases h
  · intro h
    have hx : ∃ a, cs ≠ [] ∧ ∀ c ∈ cs, f c = some a := ⟨a, h⟩
    rw [dif_pos hx]
    exact congrArg some (uniq hx.choose_spec h)
theorem exA_mono {f g : Conf → Option Ans} (h : ∀ c a, f c = some a → g c = some a) {c : Conf} {a : Ans} (he : exA f c = some a) : exA g c = some a := by
  cases c with
  | amb cs =>
    simp only [exA] at he ⊢
    rw [ambA_some] at he ⊢
    exact ⟨he.1, fun c hc => h _ _ (he.2 c hc)⟩
  | _ => exact h _ _ he
theorem ex_succ : ∀ (k : Nat) (F : Fx) (c : Conf) (a : Ans), ex S k F c = some a → ex S (k + 1) F c = some a
  | 0, F, c, a, h => by simp [ex] at h
  | k + 1, F, c, a, h => by
    have hs : Sub (callOf S (ex S k)) (callOf S (ex S (k + 1))) := call_sub (ex_succ k)
    rw [ex] at h ⊢
    split at h
    · cases h
    · rename_i c' hc
      rw [step_mono hs hc]
      exact exA_mono (ex_succ k F) h
    · rename_i b hc
      rw [step_mono hs hc]
      exact h
theorem ex_le {k k' : Nat} (h : k ≤ k') {F : Fx} {c : Conf} {a : Ans} (he : ex S k F c = some a) : ex S k' F c = some a := by
  induction h with
  | refl => exact he
  | step _ ih => exact ex_succ _ _ _ _ ih
theorem call_le {k k' : Nat} (h : k ≤ k') : Sub (callOf S (ex S k)) (callOf S (ex S k')) := call_sub fun _ _ _ he => ex_le h he
theorem R_some {f : Nat} {xs : List PV} {a : Ans} : R S f xs = some a ↔ ∃ k, callOf S (ex S k) f xs = some a := by
  constructor
  · intro h
    unfold R at h
    split at h
    · rename_i hx
      obtain ⟨k, hk⟩ := hx.choose_spec
      rw [Option.some.injEq] at h
      rw [h] at hk
      exact ⟨k, hk⟩
    · cases h
  · rintro ⟨k, hk⟩
    have hx : ∃ a k, callOf S (ex S k) f xs = some a := ⟨a, k, hk⟩
    unfold R
    rw [dif_pos hx]
    obtain ⟨k', hk'⟩ := hx.choose_spec
    have h1 := call_le (Nat.le_max_left k k') _ _ _ hk
    have h2 := call_le (Nat.le_max_right k k') _ _ _ hk'
    rw [h1] at h2
    exact h2.symm
theorem R_sub (k : Nat) : Sub (callOf S (ex S k)) (R S) := fun f xs a h => R_some.2 ⟨k, h⟩
theorem opR_compact {st : St} {o : Op} {pe : Prop × Eff} (he : opR (R S) E st o = some pe) : ∃ k, opR (callOf S (ex S k)) E st o = some pe := by
  rcases op_cases o with ⟨f, args, tys, rfl⟩ | ho
  · rw [opR_call] at he
    split at he
    · rename_i g caps hf
      unfold callE at he
      split at he
      · cases he
      · rename_i a ha
        cases hc : R S g a.vs with
        | none => rw [hc] at he; simp [retE] at he
        | some ans =>
          obtain ⟨k, hk⟩ := R_some.1 hc
          refine ⟨k, ?_⟩
          rw [opR_call, hf]
          simp only
          unfold callE
          rw [ha]
          simp only
          rw [hk]
          rw [hc] at he
          exact he
    · cases he
  · exact ⟨0, by rw [opR_other ho] at he ⊢; exact he⟩
theorem runO_compact {o : Oper} {st : St} {K : St → Conf} {r : Conf ⊕ Ans} (he : runO (R S) E o st K = some r) : ∃ k, runO (callOf S (ex S k)) E o st K = some r := by
  obtain ⟨p, e, h1, h2, h3⟩ := ifP_some.1 he
  obtain ⟨k, hk⟩ := opR_compact h1
  exact ⟨k, ifP_some.2 ⟨p, e, hk, h2, h3⟩⟩
theorem runD_compact {o : Oper} {i : Nat} {log : List (Nat × List Nat × List Nat)} {st : St} {K : List (Nat × List Nat × List Nat) → St → Conf} {r : Conf ⊕ Ans} (he : runD (R S) E o i log st K = some r) : ∃ k, runD (callOf S (ex S k)) E o i log st K = some r := by
  obtain ⟨p, e, h1, h2, h3⟩ := ifP_some.1 he
  obtain ⟨k, hk⟩ := opR_compact h1
  exact ⟨k, ifP_some.2 ⟨p, e, hk, h2, h3⟩⟩
theorem step_compact {x : Conf} {r : Conf ⊕ Ans} (he : step (R S) E F x = some r) : ∃ k, step (callOf S (ex S k)) E F x = some r := by
  cases x with
  | ops all l st ks =>
    cases l with
    | nil => exact ⟨0, he⟩
    | cons o l =>
      simp only [step] at he ⊢
      cases hg : o.guard with
      | none =>
        rw [hg] at he
        simp only at he ⊢
        split at he
        · exact ⟨0, he⟩
        · exact runO_compact he
      | some g =>
        obtain ⟨j, want⟩ := g
        rw [hg] at he
        simp only at he ⊢
        split at he
        case h_2 => cases he
        split at he
        · split at he
          · rename_i hb; simp only [hb, if_true]; exact runO_compact he
          · rename_i hb; simp only [hb, if_false]; exact ⟨0, he⟩
        · exact ⟨0, he⟩
        · cases he
  | dops all i l log st ks =>
    cases l with
    | nil => exact ⟨0, he⟩
    | cons o l =>
      simp only [step] at he ⊢
      cases hg : o.guard with
      | none => rw [hg] at he; exact runD_compact he
      | some g =>
        obtain ⟨j, want⟩ := g
        rw [hg] at he
        simp only at he ⊢
        split at he
        case h_2 => cases he
        split at he
        · split at he
          · rename_i hb; simp only [hb, if_true]; exact runD_compact he
          · rename_i hb; simp only [hb, if_false]; exact ⟨0, he⟩
        · exact ⟨0, he⟩
        · cases he
  | _ => exact ⟨0, he⟩
def EndsA (S : Sys) (F : Fx) (c : Conf) (a : Ans) : Prop := match c with
  | .amb cs => cs ≠ [] ∧ ∀ c ∈ cs, Ends S F c a
  | c => Ends S F c a
theorem all_ends {F : Fx} {a : Ans} : ∀ {cs : List Conf}, (∀ c ∈ cs, Ends S F c a) → ∃ k, ∀ c ∈ cs, ex S k F c = some a
  | [], _ => ⟨0, by simp⟩
  | c :: cs, h => by
    obtain ⟨k1, h1⟩ := h c (by simp)
    obtain ⟨k2, h2⟩ := all_ends (cs := cs) fun x hx => h x (by simp [hx])
    refine ⟨max k1 k2, fun x hx => ?_⟩
    rcases List.mem_cons.1 hx with rfl | hx
    · exact ex_le (Nat.le_max_left _ _) h1
    · exact ex_le (Nat.le_max_right _ _) (h2 x hx)
theorem endsA_iff {F : Fx} {c : Conf} {a : Ans} : EndsA S F c a ↔ ∃ k, exA (ex S k F) c = some a := by
  cases c with
  | amb cs =>
    simp only [EndsA, exA]
    constructor
    · rintro ⟨h1, h2⟩
      obtain ⟨k, hk⟩ := all_ends h2
      exact ⟨k, ambA_some.2 ⟨h1, hk⟩⟩
    · rintro ⟨k, hk⟩
      rw [ambA_some] at hk
      exact ⟨hk.1, fun c hc => ⟨k, hk.2 c hc⟩⟩
  | _ => exact Iff.rfl
def goes (S : Sys) (F : Fx) (r : Option (Conf ⊕ Ans)) (a : Ans) : Prop := match r with
  | some (.inl c) => EndsA S F c a
  | some (.inr b) => b = a
  | none => False
theorem ends_iff {c : Conf} {a : Ans} : Ends S F c a ↔ goes S F (step (R S) S.E F c) a := by
  constructor
  · rintro ⟨k, hk⟩
    cases k with
    | zero => simp [ex] at hk
    | succ k =>
      rw [ex] at hk
      split at hk
      · cases hk
      · rename_i c' hc
        rw [step_mono (R_sub k) hc]
        exact endsA_iff.2 ⟨k, hk⟩
      · rename_i b hc
        rw [step_mono (R_sub k) hc]
        exact Option.some.inj hk
  · intro h
    cases hs : step (R S) S.E F c with
    | none => rw [hs] at h; exact h.elim
    | some r =>
      rw [hs] at h
      obtain ⟨k, hk⟩ := step_compact hs
      cases r with
      | inl c' =>
        obtain ⟨k', hk'⟩ := endsA_iff.1 h
        refine ⟨max k k' + 1, ?_⟩
        rw [ex, step_mono (call_le (Nat.le_max_left k k')) hk]
        exact exA_mono (fun _ _ he => ex_le (Nat.le_max_right k k') he) hk'
      | inr b =>
        refine ⟨k + 1, ?_⟩
        rw [ex, hk]
        exact congrArg some h
theorem goes_ifP {α : Type} {x : Option (Prop × α)} {K : α → Option (Conf ⊕ Ans)} {a : Ans} : goes S F (ifP x K) a ↔ ∃ p e, x = some (p, e) ∧ p ∧ goes S F (K e) a := by
  constructor
  · intro h
    cases hx : ifP x K with
    | none => rw [hx] at h; exact h.elim
    | some r =>
      obtain ⟨p, e, h1, h2, h3⟩ := ifP_some.1 hx
      exact ⟨p, e, h1, h2, by rw [h3, ← hx]; exact h⟩
  · rintro ⟨p, e, rfl, h2, h3⟩
    unfold ifP
    simp only [h2, if_true]
    exact h3
theorem R_of {f : Nat} {fu : Func} {c : Code} {xs : List PV} {a : Ans} {ts : List ResultVar} {cm : CM} {ns : List Nat} (hl : S.lib f xs = none) (hf : S.P.funcs[f]? = some fu) (hb : fu.body = some c) (hc : fnChk fu c = true) (hcm : S.E.M f = cm) (hm : cm.modes.length = xs.length) (hn : xs.length ≤ fu.ntmps)
    (hts : fu.results.toList = ts) (hns : fu.resultTypes.toList.map (nilSz S.E) = ns) (h : Ends S ⟨ts, ns, cm, S.X f⟩ (.run c (entry xs) []) a) : R S f xs = some a := by
  obtain ⟨k, hk⟩ := h
  refine R_some.2 ⟨k, ?_⟩
  subst hcm hts hns
  unfold callOf
  rw [hl]
  simp only
  rw [hf]
  simp only
  rw [hb]
  simp only
  rw [if_pos ⟨hc, hm, hn⟩]
  exact hk
theorem R_lib {f : Nat} {xs : List PV} {a : Ans} (hl : S.lib f xs = some a) : R S f xs = some a := R_some.2 ⟨0, by unfold callOf; rw [hl]⟩
end
end Go.Proofs.YtmanllfmgghadaaGreatDoor.PVE
namespace Go.Proofs.YtmanllfmgghadaaGreatDoor.PVE
open PV
section
variable {P : Program} {E : Env} {w0 : World} {R0 : Nat → Prop} {F0 : List Nat} {gh : Nat → Value} {n : Nat} {Fr : Nat → Prop} {st : St} {a : Act} {w : World} {call : Nat → List PV → Option Ans} [Dm]
def RelF (E : Env) (w0 : World) (R0 : Nat → Prop) (F0 : List Nat) (gh : Nat → Value) (n : Nat) (Fr : Nat → Prop) (st : St) (a : Act) (w : World) : Prop := ∃ R σ fps, Rel w0 R0 F0 gh E.G n Fr R σ fps st a w
def RelX (E : Env) (w0 : World) (R0 : Nat → Prop) (F0 : List Nat) (gh : Nat → Value) (n : Nat) (st : St) (a : Act) (w : World) : Prop := RelF E w0 R0 F0 gh n (fun r => st.next ≤ r) st a w
theorem RelF.of (h : RelF E w0 R0 F0 gh n Fr st a w) {Fr' : Nat → Prop} {st' : St} (hf : ∀ r, Fr' r → Fr r) (ht : st'.temps = st.temps) (hs : st'.store = st.store) : RelF E w0 R0 F0 gh n Fr' st' a w := by
  obtain ⟨R, σ, fps, h⟩ := h
  refine ⟨R, σ, fps, ⟨fun t => by rw [ht]; exact h.tm t, fun r x hx => h.rt r x (by rw [← hs]; exact hx), fun r hx => h.nn r (by rw [← hs]; exact hx), h.nd, h.dj, h.fb, h.Rb, h.R0R, h.keep, h.sz, h.tape, h.os, h.out, fun r hr => ?_, h.gl, h.nt, h.df⟩⟩
  rw [hs]; exact h.fr r (hf r hr)
def CallOk (P : Program) (E : Env) (call : Nat → List PV → Option Ans) : Prop := ∀ f xs a, call f xs = some a → PCalls P E.G f xs a.bks a.res (E.M f).al
theorem opR_sound {next : Act → World → Prop} {Q : Exit → Act → World → Prop} (hT : TyOk P E.T) (hS : SOk P E.S) (hcall : CallOk P E call) (h : RelF E w0 R0 F0 gh n Fr st a w) {o : Oper} (hd : dstOk n o.dst) {p : Prop} {e : Eff} (he : opR call E st o.op = some (p, e)) (hp : p)
    (hF : ∀ r, st.next ≤ r → r < e.nx → Fr r)
    (hK : ∀ w' u, RelF E w0 R0 F0 gh n (frA Fr st.next e.nx) (st.app o.dst e) (a.put o.dst u) w' → next (a.put o.dst u) w') : o.wp P a w next Q := by
  obtain ⟨R, σ, fps, h⟩ := h
  rcases op_cases o.op with ⟨f, args, tys, ho⟩ | ho
  · rw [ho, opR_call] at he
    split at he
    case h_2 => cases he
    rename_i g caps hf
    refine call_sound (K := fun e' => e' = e) h hd ho hf ?_ (fun e' he' => by subst he'; exact hF) (fun e' w' R' σ' fps' u he' hr => by subst he'; exact hK w' u ⟨R', σ', fps', hr⟩)
    unfold callE at he
    split at he
    · cases he
    rename_i A hA
    cases hc : call g A.vs with
    | none => rw [hc] at he; simp [retE] at he
    | some ans =>
      rw [hc] at he
      simp only [retE] at he
      split at he
      · cases he
      rename_i l hl
      simp only [Option.some.injEq, Prod.mk.injEq] at he
      obtain ⟨rfl, rfl⟩ := he
      unfold callP
      rw [hA]
      refine ⟨hp, ans.bks, ans.res, (E.M g).al, hcall _ _ _ hc, ?_⟩
      rw [hl]
  · rw [opR_other ho] at he
    obtain ⟨nx, u, w', R', σ', fps', hr, hn, hrel⟩ := eff_sound hT hS h hd he hp hF
    unfold Oper.wp
    rw [hr]
    rcases hn with rfl | ⟨rfl, rfl⟩
    · rw [Oper.upon_value]; exact hK w' u ⟨R', σ', fps', hrel⟩
    · rw [Oper.upon_skip]; exact hK w' _ ⟨R', σ', fps', hrel⟩
theorem pickKV_at : ∀ (os : List MapEntry) (es : List PV) (f : List Nat) {R : Nat → Prop} {σ : Nat → Option Hd}, Ts w R σ es (kvs os) f → ∀ (i : Nat) (o : MapEntry), os[i]? = some o → ∃ k v es' f', (k, v, es') ∈ pickKV es ∧ Ts w R σ (k :: v :: es') (kvs (o :: os.eraseIdx i)) f' ∧ f'.Perm f
  | [], es, f, R, σ, h, i, o, ho => by simp at ho
  | o0 :: os, es, f, R, σ, h, i, o, ho => by
    rw [kvs_cons] at h
    rcases es with _ | ⟨k, _ | ⟨v, es⟩⟩
    · simp [Ts] at h
    · simp only [Ts] at h
      obtain ⟨u, us', f1, f2, h1, _, h2, _⟩ := h
      simp only [List.cons.injEq] at h1
      rw [← h1.2] at h2
      simp at h2
    · have h0 := h
      simp only [Ts] at h
      obtain ⟨u, us', f1, f2, hh1, hk, ⟨u2, us2, f3, f4, hh3, hv0, hr, rfl⟩, rfl⟩ := h
      simp only [List.cons.injEq] at hh1
      obtain ⟨rfl, rfl⟩ := hh1
      simp only [List.cons.injEq] at hh3
      obtain ⟨rfl, rfl⟩ := hh3
      cases i with
      | zero =>
        simp only [List.getElem?_cons_zero, Option.some.injEq] at ho
        subst ho
        exact ⟨k, v, es, _, by simp [pickKV], by simpa [kvs_cons] using h0, .rfl⟩
      | succ i =>
        obtain ⟨k', v', es', f', h1, h2, h3⟩ := pickKV_at os es f4 hr i o (by simpa using ho)
        rw [kvs_cons] at h2
        simp only [Ts] at h2
        obtain ⟨u, us', g1, g2, hh1, hk', ⟨u2, us2, g3, g4, hh3, hv', hr', rfl⟩, rfl⟩ := h2
        simp only [List.cons.injEq] at hh1
        obtain ⟨rfl, rfl⟩ := hh1
        simp only [List.cons.injEq] at hh3
        obtain ⟨rfl, rfl⟩ := hh3
        refine ⟨k', v', k :: v :: es', g1 ++ (g3 ++ (f1 ++ (f3 ++ g4))), ?_, ?_, ?_⟩
        · simp only [pickKV, List.mem_cons, List.mem_map]
          exact .inr ⟨(k', v', es'), h1, rfl⟩
        · simp only [List.eraseIdx_cons_succ, kvs_cons, Ts]
          exact ⟨_, _, g1, _, rfl, hk', ⟨_, _, g3, _, rfl, hv', ⟨_, _, f1, _, rfl, hk, ⟨_, _, f3, g4, rfl, hv0, hr', rfl⟩, rfl⟩, rfl⟩, rfl⟩
        · have e1 : (g1 ++ (g3 ++ (f1 ++ (f3 ++ g4)))).Perm (f1 ++ (f3 ++ (g1 ++ (g3 ++ g4)))) := by
            have a1 : (g1 ++ (g3 ++ (f1 ++ (f3 ++ g4)))) = (g1 ++ g3) ++ ((f1 ++ f3) ++ g4) := by simp
            have a2 : (f1 ++ (f3 ++ (g1 ++ (g3 ++ g4)))) = (f1 ++ f3) ++ ((g1 ++ g3) ++ g4) := by simp
            rw [a1, a2]
            exact List.perm_append_comm_assoc _ _ _
          exact e1.trans ((h3.append_left f3).append_left f1)
theorem filter_erase : ∀ {L : List MapEntry} {i : Nat} {e : MapEntry}, (L.map (·.born)).Nodup → L[i]? = some e → L.filter (fun x => !(x.born == e.born)) = L.eraseIdx i
  | [], i, e, _, h => by simp at h
  | x :: L, 0, e, hn, h => by
    simp only [List.getElem?_cons_zero, Option.some.injEq] at h
    subst h
    simp only [List.map_cons, List.nodup_cons] at hn
    rw [List.filter_cons_of_neg (by simp), List.eraseIdx_cons_zero]
    refine List.filter_eq_self.2 fun y hy => ?_
    have : y.born ≠ x.born := fun he => hn.1 (by rw [← he]; exact List.mem_map_of_mem hy)
    simpa using this
  | x :: L, i + 1, e, hn, h => by
    simp only [List.map_cons, List.nodup_cons] at hn
    simp only [List.getElem?_cons_succ] at h
    have : x.born ≠ e.born := fun he => hn.1 (by rw [he]; exact List.mem_map_of_mem (List.mem_of_getElem? h))
    rw [List.filter_cons_of_pos (by simpa using this), List.eraseIdx_cons_succ, filter_erase hn.2 h]
theorem leftL_push {ea : Array MapEntry} {seen : Array Nat} {i : Nat} {e : MapEntry} (hn : (ea.toList.map (·.born)).Nodup) (h : (leftL ea seen)[i]? = some e) : leftL ea (seen.push e.born) = (leftL ea seen).eraseIdx i := by
  have hn2 : ((leftL ea seen).map (·.born)).Nodup := (List.filter_sublist.map _).nodup hn
  rw [← filter_erase hn2 h]
  unfold leftL
  rw [List.filter_filter]
  refine List.filter_congr fun x _ => ?_
  rw [contains_push, Bool.not_or, Bool.and_comm]
theorem next_run {ty b m clock : Nat} {seen : Array Nat} {ea : Array MapEntry} (hb : w.heap[b]? = some (.mapIter (some m) clock seen clock)) (hm : w.heap[m]? = some (.map ea clock)) (hold : ∀ x ∈ ea.toList, x.born < clock) :
    (leftL ea seen = [] ∧ (Instr.next (.pointer (some ⟨b, 0, none⟩)) false ty).run P w = .ok (.tuple #[.bool false]) w) ∨
    ∃ (i : Nat) (e : MapEntry) (k : Nat), (leftL ea seen)[i]? = some e ∧ w.drawn ≤ k ∧ (Instr.next (.pointer (some ⟨b, 0, none⟩)) false ty).run P w = .ok (.tuple #[.bool true, e.key, e.val]) { w with drawn := k, heap := w.heap.setIfInBounds b (.mapIter (some m) clock (seen.push e.born) clock) } := by
  simp only [Instr.next, getObj, Sem.run_bind, Sem.run, hb, hm, Result.andThen, next_test_false seen ea clock clock hold (Nat.le_refl _), Bool.false_eq_true, if_false]
  have hL : (Array.filter (fun e => !seen.contains e.born) ea).toList = leftL ea seen := by unfold leftL; rw [Array.toList_filter]
  have hmem : ∀ x ∈ (Array.filter (fun e => !seen.contains e.born) ea).toList, x.born < clock := fun x hx => hold x (by simp at hx ⊢; exact hx.1)
  rw [← hL]
  generalize Array.filter (fun e => !seen.contains e.born) ea = L at hmem ⊢
  have e1 : L.filter (fun x => decide (x.born < clock)) = L := Array.filter_eq_self.2 (fun x hx => by simpa using hmem x (by simpa using hx))
  have e2 : L.filter (fun x => decide (x.born ≥ clock)) = #[] := by
    rw [Array.filter_eq_empty_iff]
    intro x hx
    have := hmem x (by simpa using hx)
    simp
    omega
  simp only [e1, e2, Array.append_empty]
  by_cases h0 : L.size = 0
  · left
    have : L = #[] := Array.eq_empty_of_size_eq_zero h0
    subst this
    refine ⟨rfl, ?_⟩
    simp [choose, Sem.run, Question.forced]
  · right
    have hne : L.isEmpty = false := by simp [Array.isEmpty, h0]
    simp only [hne, Bool.false_eq_true, if_false, Array.empty_append, Array.size_map]
    have hch : ∃ (j k : Nat), j < L.size ∧ w.drawn ≤ k ∧ (choose (Question.mapNext L.size)).run P w = .ok j { w with drawn := k } := by
      by_cases hf : L.size ≤ 1
      · exact ⟨0, w.drawn, by omega, Nat.le_refl _, by simp [choose, Sem.run, Question.forced, hf]⟩
      · exact ⟨_, w.drawn + 1, Nat.mod_lt _ (by omega), Nat.le_succ _, by
          simp only [choose, Sem.run, Question.forced, decide_eq_true_eq, hf, if_false, Question.cut]
          rfl⟩
    obtain ⟨j, k, hj, hk, hrun⟩ := hch
    refine ⟨j, L[j], k, by simp [hj], hk, ?_⟩
    have hset : ∀ o', (setObj b o').run P { w with drawn := k } = .ok () { w with drawn := k, heap := w.heap.setIfInBounds b o' } := fun o' => by
      simp only [setObj, Sem.run, hb]
    simp only [hrun, Array.getElem?_map, Array.getElem?_eq_getElem hj, Option.map_some, Sem.run_bind, hset, Result.andThen]
    rfl
theorem next_sound {next : Act → World → Prop} {Q : Exit → Act → World → Prop} (h : RelX E w0 R0 F0 gh n st a w) {o : Oper} (hd : dstOk n o.dst) {es : List Eff} (hes : nextE E st o.op = some es)
    (hK : ∀ e ∈ es, ∀ w' u, RelX E w0 R0 F0 gh n (st.app o.dst e) (a.put o.dst u) w' → next (a.put o.dst u) w') : o.wp P a w next Q := by
  obtain ⟨R, σ, fps, h⟩ := h
  unfold nextE at hes
  split at hes
  case h_2 => cases hes
  rename_i x hop
  have hx := ev_V h x
  unfold nextV at hes
  split at hes
  case h_2 => cases hes
  rename_i r hex
  split at hes
  case h_2 => cases hes
  rename_i it l hr
  obtain rfl := Option.some.inj hes
  rw [hex] at hx
  obtain ⟨hh, bs, os, f, k1, hu, hm, hts, hfp⟩ := map_root h hx hr
  -- the iterator's blocks, what it has handed out, what is left
  obtain ⟨b, m, ea, clock, seen, f', hhdr, hbs, hb, hbm, hlt, hnb, hts', hfs⟩ : ∃ b m ea clock seen f', hh.hdr = .pointer (some ⟨b, 0, none⟩) ∧ bs = [b, m] ∧ w.heap[b]? = some (.mapIter (some m) clock seen clock) ∧ w.heap[m]? = some (.map ea clock) ∧ (∀ x ∈ ea.toList, x.born < clock) ∧ (ea.toList.map (·.born)).Nodup ∧ Ts w R σ (mpLeft (it + 1) l) (kvs (leftL ea seen)) f' ∧ f'.Sublist f := by
    cases it with
    | zero =>
      simp only [MapAt] at hm
      obtain ⟨b, m, ea, clock, q1, q2, q3, q4, q5, q6, q7⟩ := hm
      refine ⟨b, m, ea, clock, #[], f, q1, q2, q3, q4, q6, q7, ?_, List.Sublist.refl _⟩
      have : leftL ea #[] = ea.toList := by unfold leftL; exact List.filter_eq_self.2 fun x _ => by simp
      rw [this, ← q5]
      exact hts
    | succ it =>
      simp only [MapAt] at hm
      obtain ⟨b, m, ea, clock, seen, en, q1, q2, q3, q4, q5, q6, q7, q8⟩ := hm
      rw [q6, kvs_cons] at hts
      rcases l with _ | ⟨k, _ | ⟨v, l⟩⟩
      · simp [Ts] at hts
      · simp only [Ts] at hts
        obtain ⟨u, us', f1, f2, h1, _, h2, _⟩ := hts
        simp only [List.cons.injEq] at h1
        rw [← h1.2] at h2
        simp at h2
      · simp only [Ts] at hts
        obtain ⟨u, us', f1, f2, hh1, hk, ⟨u2, us2, f3, f4, hh3, hv0, hrr, rfl⟩, rfl⟩ := hts
        simp only [List.cons.injEq] at hh1
        obtain ⟨rfl, rfl⟩ := hh1
        simp only [List.cons.injEq] at hh3
        obtain ⟨rfl, rfl⟩ := hh3
        exact ⟨b, m, ea, clock, seen.push en.born, f4, q1, q2, q3, q4, q7, q8, by simpa [mpLeft] using hrr, (List.sublist_append_right _ _).trans (List.sublist_append_right _ _)⟩
  rw [hhdr] at hu
  unfold Oper.wp
  have hex2 : (execOp a.eval o).run P w = ((Instr.next (.pointer (some ⟨b, 0, none⟩)) false o.type).run P w).andThen fun v w' => .ok (.value v) w' := by
    simp only [execOp, hop, Sem.run_bind, hu, Sem.run_pure]
  have hbr : b ∈ fps r := by rw [hfp, hbs]; simp
  have hmr : m ∈ fps r := by rw [hfp, hbs]; simp
  have hnd := h.nd r
  rw [hfp, hbs] at hnd
  simp only [List.cons_append, List.nil_append, List.nodup_cons, List.mem_cons, not_or] at hnd
  rcases next_run (P := P) (ty := o.type) hb hbm hlt with ⟨h0, hrun⟩ | ⟨i, en, k, hi, hk, hrun⟩
  · rw [h0] at hts'
    have hnil : mpLeft (it + 1) l = [] := by
      cases hl : mpLeft (it + 1) l with
      | nil => rfl
      | cons c cs => rw [hl] at hts'; simp [kvs, Ts] at hts'
    have hr1 : (execOp a.eval o).run P w = .ok (.value (.tuple #[.bool false])) w := by rw [hex2, hrun]; rfl
    rw [hr1, Oper.upon_value]
    refine hK ⟨.tup [.bool false], [], [], st.next⟩ (by rw [hnil]; simp [nextO]) w _ ?_
    have := h.value (dst := o.dst) (v := .tup [.bool false]) (u := .tuple #[.bool false]) hd (by simp only [V, Ts]; exact ⟨[.bool false], rfl, .bool false, [], [], [], rfl, ⟨rfl, rfl⟩, ⟨rfl, rfl⟩, rfl⟩)
    exact RelF.of ⟨R, σ, fps, this⟩ (fun r hr => ⟨hr, fun hc => by have : st.next ≤ r := hr; omega⟩) rfl rfl
  · obtain ⟨kp, vp, es', f2, hpick, hts2, hperm⟩ := pickKV_at _ _ _ hts' i en hi
    let w' : World := { w with drawn := k, heap := w.heap.setIfInBounds b (.mapIter (some m) clock (seen.push en.born) clock) }
    have hr1 : (execOp a.eval o).run P w = .ok (.value (.tuple #[.bool true, en.key, en.val])) w' := by rw [hex2, hrun]; rfl
    rw [hr1, Oper.upon_value]
    have hoth : ∀ q, q ≠ b → w'.heap[q]? = w.heap[q]? := fun q hq => (MapKept.heap_set hb).2 q hq
    have hbR : ¬ R b := (h.fb r b hbr).2.1
    have hw : ∀ q, R q → w'.heap[q]? = w.heap[q]? := fun q hq => hoth q (by rintro rfl; exact hbR hq)
    have hf2 : ∀ q ∈ f2, q ∈ f := fun q hq => hfs.subset (hperm.mem_iff.1 hq)
    have hV : V w' R σ (.mp 2 (kp :: vp :: es')) hh.hdr ([b, m] ++ f2) := by
      simp only [V, MapAt]
      refine ⟨[b, m], en :: (leftL ea seen).eraseIdx i, f2, ⟨b, m, ea, clock, seen, en, hhdr, rfl, (MapKept.heap_set hb).1, by rw [hoth m (fun e => hnd.1.1 e.symm)]; exact hbm, ?_, ?_, hlt, hnb⟩, Ts.mono (fun _ h => h) (Le.refl _) hw _ _ _ (fun q hq => hoth q (by rintro rfl; exact hnd.1.2 (hf2 _ hq))) hts2, rfl⟩
      · exact (List.mem_filter.1 (List.mem_of_getElem? hi)).1
      · rw [leftL_push hnb hi]
    have hne : mpLeft (it + 1) l ≠ [] := by
      intro hc
      rw [hc] at hpick
      simp [pickKV] at hpick
    refine hK ⟨.tup [.bool true, .undef, .undef], [], [(r, ⟨.mp 2 (kp :: vp :: es'), []⟩)], st.next⟩ ?_ w' _ ?_
    · unfold nextO
      split
      · rename_i hc; exact absurd hc hne
      · exact List.mem_map.2 ⟨(kp, vp, es'), hpick, rfl⟩
    have hsub : ∀ q ∈ [b, m] ++ f2, q ∈ fps r := fun q hq => by
      rw [hfp, hbs]
      rcases List.mem_append.1 hq with hq | hq
      · exact List.mem_append_left _ hq
      · exact List.mem_append_right _ (hf2 q hq)
    have hres := h.change (w' := w') (R' := R) (σ' := σ) (e := ⟨.tup [.bool true, .undef, .undef], [], [(r, ⟨.mp 2 (kp :: vp :: es'), []⟩)], st.next⟩) (dst := o.dst) (u := .tuple #[.bool true, en.key, en.val]) hd (fun _ => [b, m] ++ f2)
      (by simp) (fun _ h => h) (fun q hq => ⟨by show q < (w.heap.setIfInBounds b _).size; simpa using (h.Rb q hq).1, .inl hq⟩) (Le.refl _) hw
      (by
        intro q hq hq' d hd'
        refine hoth d ?_
        rintro rfl
        exact h.dj r q (by rintro rfl; exact hq' (by simp)) d hbr hd')
      (by
        intro q y hy
        simp only [List.mem_singleton, Prod.mk.injEq] at hy
        obtain ⟨rfl, rfl⟩ := hy
        exact ⟨hh, k1, hV, trivial⟩)
      (by
        simp only [List.map_cons, List.map_nil, List.flatMap_cons, List.flatMap_nil, List.append_nil, List.cons_append, List.nil_append, List.nodup_cons, List.mem_cons, not_or]
        exact ⟨⟨hnd.1.1, fun hc => hnd.1.2 (hf2 _ hc)⟩, fun hc => hnd.2.1 (hf2 _ hc), hperm.nodup_iff.2 (hfs.nodup hnd.2.2)⟩)
      (by
        intro q hq d hd'
        have hdr := hsub d hd'
        obtain ⟨z1, z2, _⟩ := h.fb r d hdr
        exact ⟨by show d < (w.heap.setIfInBounds b _).size; simpa using z1, z2, .inl ⟨r, by simp, hdr⟩⟩)
      (by
        intro d h1 h2
        refine hoth d ?_
        rintro rfl
        rcases (h.fb r d hbr).2.2 with h3 | h3
        · exact h2 h3
        · omega)
      (by show w.heap.size ≤ (w.heap.setIfInBounds b _).size; simp) ⟨rfl, fun _ => hk⟩ rfl rfl (fun q hq => (h.fr q hq.1).1) (by simp; exact .inl ⟨_, k1⟩)
      (by
        simp only [V, Ts]
        exact ⟨[.bool true, en.key, en.val], rfl, _, _, [], [], rfl, ⟨rfl, rfl⟩, ⟨_, _, [], [], rfl, rfl, ⟨_, _, [], [], rfl, rfl, ⟨rfl, rfl⟩, rfl⟩, rfl⟩, rfl⟩)
    exact RelF.of ⟨R, σ, _, hres⟩ (fun r hr => ⟨hr, fun hc => by have : st.next ≤ r := hr; dsimp only at hc; omega⟩) rfl rfl
theorem opR_nx {o : Op} {p : Prop} {e : Eff} (he : opR call E st o = some (p, e)) : st.next ≤ e.nx := by
  rcases op_cases o with ⟨f, args, tys, rfl⟩ | ho
  · rw [opR_call] at he
    split at he
    case h_2 => cases he
    unfold callE at he
    split at he
    · cases he
    unfold retE at he
    split at he
    · cases he
    split at he
    · cases he
    simp only [Option.some.injEq, Prod.mk.injEq] at he
    obtain ⟨_, rfl⟩ := he
    exact Nat.le_add_right _ _
  · rw [opR_other ho] at he
    exact eff_nx he
section local_
variable {s s' : Nat → Option Root}
theorem roLeaf_local {x v : PV} {l : List Nat} (he : roLeaf s x = some (v, l)) (ht : ∀ r ∈ touch s [x], s r = s' r) : roLeaf s' x = some (v, l) := by
  have key : ∀ r pv l', r ∈ hands x → foldR s 4 r = some (pv, l') → foldR s' 4 r = some (pv, l') := fun r pv l' hr hf => reach_local (s := s) (s' := s') (fun q hq => ht q (by rw [touch_one]; exact List.mem_flatMap.2 ⟨r, hr, hq⟩)) hf
  cases x <;> simp only [roLeaf] at he ⊢ <;> try exact he
  case vw r x0 y0 =>
    split at he
    case h_2 => cases he
    rename_i hf
    rw [reach_local (s := s) (s' := s') (fun q hq => ht q (by rw [touch_one]; simp only [hands, List.flatMap_cons, List.mem_append]; exact .inl hq)) hf]
    exact he
  · rename_i r
    cases hf : foldR s 4 r with
    | none => simp [hf] at he
    | some y => rw [key r y.1 y.2 (by simp [hands]) hf]; rw [hf] at he; exact he
  · rename_i r i off
    split at he
    · rename_i pv l' hf
      rw [key r _ _ (by simp [hands]) hf]
      exact he
    · cases he
theorem roL_local : ∀ {cs cs' : List PV} {l : List Nat}, roL s cs = some (cs', l) → (∀ r ∈ touch s cs, s r = s' r) → roL s' cs = some (cs', l)
  | [], cs', l, he, _ => by simpa [roL] using he
  | c :: cs, cs', l, he, ht => by
    simp only [roL] at he ⊢
    split at he
    · rename_i c' l1 cs'' l2 h1 h2
      rw [roLeaf_local h1 (fun r hr => ht r (touch_sub (by simp) r hr)), roL_local h2 (fun r hr => ht r (touch_sub (fun x hx => by simp [hx]) r hr))]
      exact he
    · cases he
theorem roArg_local {x v : PV} {l : List Nat} (he : roArg s x = some (v, l)) (ht : ∀ r ∈ touch s [x], s r = s' r) : roArg s' x = some (v, l) := by
  cases x with
  | agg cs =>
    simp only [roArg] at he ⊢
    cases hf : roL s cs with
    | none => simp [hf] at he
    | some y => rw [roL_local (cs' := y.1) (l := y.2) hf (by rw [touch_one] at ht; exact ht)]; rw [hf] at he; exact he
  | fn g cs =>
    simp only [roArg] at he ⊢
    cases hf : roL s cs with
    | none => simp [hf] at he
    | some y => rw [roL_local (cs' := y.1) (l := y.2) hf (by rw [touch_one] at ht; exact ht)]; rw [hf] at he; exact he
  | _ => simp only [roArg] at he ⊢; exact roLeaf_local he ht
theorem mkArgs_local : ∀ {ms : List Nat} {xs : List PV} {A : Args}, mkArgs s ms xs = some A → (∀ r ∈ touch s xs, s r = s' r) → mkArgs s' ms xs = some A
  | ms, [], A, he, _ => by simpa [mkArgs] using he
  | ms, x :: xs, A, he, ht => by
    simp only [mkArgs] at he ⊢
    split at he
    · cases he
    rename_i A1 hA1
    rw [mkArgs_local hA1 (fun r hr => ht r (touch_sub (fun x hx => by simp [hx]) r hr))]
    simp only
    have ht1 : ∀ r ∈ touch s [x], s r = s' r := fun r hr => ht r (touch_sub (by simp) r hr)
    have key : ∀ r pv l', r ∈ hands x → foldR s 4 r = some (pv, l') → foldR s' 4 r = some (pv, l') := fun r pv l' hr hf => reach_local (s := s) (s' := s') (fun q hq => ht1 q (by rw [touch_one]; exact List.mem_flatMap.2 ⟨r, hr, hq⟩)) hf
    split at he
    · rename_i hm
      split at he
      · rename_i v l hr
        rw [roArg_local hr ht1]
        exact he
      · cases he
    · rename_i m hm
      split at he
      · rename_i r
        split at he
        · rename_i sz es l hf
          rw [key r _ _ (by simp [hands]) hf]
          exact he
        · cases he
      · rename_i r
        split at he
        · rename_i cs l hf
          rw [key r _ _ (by simp [hands]) hf]
          exact he
        · cases he
      · exact he
      · rename_i cs
        split at he
        · rename_i cs' l hi
          rw [inl_local _ _ _ hi (by rw [touch_one] at ht1; exact ht1)]
          exact he
        · cases he
      · cases he
theorem ownH_sub {x : PV} : ∀ r ∈ ownH x, r ∈ hands x := by
  intro r hr
  cases x with
  | own q => simpa [ownH, hands] using hr
  | agg cs =>
    simp only [ownH] at hr
    simp only [hands]
    obtain ⟨c, hc, hr⟩ := List.mem_flatMap.1 hr
    cases c <;> simp [own1] at hr
    subst hr
    exact handsL_mem hc _ (by simp [hands])
  | _ => simp [ownH] at hr
theorem hands0_sub : ∀ {ms : List Nat} {xs : List PV}, ∀ r ∈ hands0 ms xs, r ∈ handsL xs
  | ms, [], r, hr => by simp [hands0] at hr
  | ms, x :: xs, r, hr => by
    simp only [hands0, List.mem_append] at hr
    simp only [handsL, List.mem_append]
    rcases hr with hr | hr
    · split at hr
      · exact .inl (ownH_sub r hr)
      · simp at hr
    · exact .inr (hands0_sub r hr)
theorem frzRo_ext : ∀ {hs : List Nat}, (∀ r ∈ hs, foldR s' 4 r = foldR s 4 r) → frzRo s' hs = frzRo s hs
  | [], _ => rfl
  | r :: hs, h => by
    have ih := frzRo_ext (hs := hs) fun q hq => h q (by simp [hq])
    simp only [frzRo, ih, h r (by simp)]
theorem frzRo_local {ms : List Nat} {xs : List PV} {A : Args} (hA : mkArgs s ms xs = some A) (ht : ∀ r ∈ touch s xs, s r = s' r) : frzRo s' (hands0 ms xs) = frzRo s (hands0 ms xs) := by
  refine frzRo_ext fun r hr => ?_
  obtain ⟨y, hy, _⟩ := mkArgs_hands hA r hr
  rw [hy]
  exact reach_local (s := s) (s' := s') (fun q hq => ht q (List.mem_flatMap.2 ⟨r, hands0_sub r hr, hq⟩)) hy
end local_
theorem eff_storeless {t : Nat → PV} {s s' : Nat → Option Root} {nx : Nat} {o : Op} (ho : storeless o = true) : eff E ⟨t, s, nx⟩ o = eff E ⟨t, s', nx⟩ o := by
  have hev : ev E ⟨t, s', nx⟩ = ev E ⟨t, s, nx⟩ := ev_fun
  cases o <;> simp [storeless] at ho <;> simp only [eff] <;> (try rw [hev]) <;> (repeat' (first | rfl | split))
def shpP : PV → Option (Option Nat × Nat)
  | .slo sz es => some (some sz, es.length)
  | .sl es => some (none, es.length)
  | _ => none
def shp : Option Root → Option (Option Nat × Nat)
  | some rt => shpP rt.pv
  | none => none
theorem shp_slo {b : Option Root} {sz : Nat} {es : List PV} {l : List (Nat × Nat)} (h : shp (some ⟨.slo sz es, l⟩) = shp b) : ∃ es' l', b = some ⟨.slo sz es', l'⟩ ∧ es'.length = es.length := by
  cases b with
  | none => simp [shp, shpP] at h
  | some rt =>
    obtain ⟨pv, l'⟩ := rt
    cases pv <;> simp [shp, shpP] at h
    obtain ⟨rfl, h⟩ := h
    exact ⟨_, l', rfl, h.symm⟩
theorem shp_sl {b : Option Root} {es : List PV} {l : List (Nat × Nat)} (h : shp (some ⟨.sl es, l⟩) = shp b) : ∃ es' l', b = some ⟨.sl es', l'⟩ ∧ es'.length = es.length := by
  cases b with
  | none => simp [shp, shpP] at h
  | some rt =>
    obtain ⟨pv, l'⟩ := rt
    cases pv <;> simp [shp, shpP] at h
    exact ⟨_, l', rfl, h.symm⟩
theorem handsL_val {o : Op} {x : Operand} {r : Nat} (hx : x ∈ o.operands) (hr : r ∈ hands (ev E st x)) : r ∈ handsL (valsOf E st o) := handsL_mem (val_mem hx) r hr
theorem eff_soft {t : Nat → PV} {s s' : Nat → Option Root} {nx : Nat} {o : Op} {pe : Prop × Eff} (ho : softOp o = true) (hs : ∀ r ∈ handsL (valsOf E ⟨t, s, nx⟩ o), shp (s r) = shp (s' r)) (he : eff E ⟨t, s, nx⟩ o = some pe) : eff E ⟨t, s', nx⟩ o = some pe := by
  have hev : ev E ⟨t, s', nx⟩ = ev E ⟨t, s, nx⟩ := ev_fun
  cases o with
  | slice ty x lo hi mx =>
    cases mx with
    | some m => simp [eff] at he
    | none =>
      have dir : ∀ r ∈ hands (ev E ⟨t, s, nx⟩ x), shp (s r) = shp (s' r) := fun r hr => hs r (handsL_val (by simp [Op.operands]) hr)
      simp only [eff] at he ⊢
      rw [hev]
      generalize hx : ev E ⟨t, s, nx⟩ x = v at he dir ⊢
      split at he
      · rename_i hT; try simp only [hT]
        cases v <;> simp only [sliceStrE] at he ⊢ <;> exact he
      · rename_i hT
        try simp only [hT]
        split at he
        case h_2 => cases he
        rename_i i hi'
        try simp only [hi']
        cases v with
        | own r =>
          have hd := dir r (by simp [hands])
          simp only [sliceE] at he ⊢
          split at he
          case h_2 => cases he
          rename_i sz es l hr
          rw [hr] at hd
          obtain ⟨es', l', hr', hlen⟩ := shp_slo hd
          rw [hr']
          simp only [hlen]
          exact he
        | vw r x0 y0 =>
          have hd := dir r (by simp [hands])
          simp only [sliceE] at he ⊢
          split at he
          case h_2 => cases he
          rename_i sz es l hr
          rw [hr] at hd
          obtain ⟨es', l', hr', hlen⟩ := shp_slo hd
          rw [hr']
          exact he
        | _ => simp only [sliceE] at he ⊢ <;> exact he
      · cases he
  | indexAddr ty x y =>
    have dir : ∀ r ∈ hands (ev E ⟨t, s, nx⟩ x), shp (s r) = shp (s' r) := fun r hr => hs r (handsL_val (by simp [Op.operands]) hr)
    simp only [eff] at he ⊢
    rw [hev]
    generalize hx : ev E ⟨t, s, nx⟩ x = v at he dir ⊢
    split at he
    case h_2 => cases he
    rename_i el _ _ _ hT
    try simp only [hT]
    split at he
    case h_2 => cases he
    rename_i ti k n hi' hy
    try simp only [hi', hy]
    cases v with
    | own r =>
      have hd := dir r (by simp [hands])
      simp only at he ⊢
      split at he
      case h_2 => cases he
      rename_i sz es l hr
      rw [hr] at hd
      obtain ⟨es', l', hr', hlen⟩ := shp_slo hd
      rw [hr']
      simp only
      split at he
      case h_2 => cases he
      rename_i e0 he0
      have hlt : n.toNat < es'.length := by rw [hlen]; exact (List.getElem?_eq_some_iff.1 he0).1
      rw [List.getElem?_eq_getElem hlt]
      exact he
    | vw r x0 y0 =>
      have hd := dir r (by simp [hands])
      simp only at he ⊢
      split at he
      case h_2 => cases he
      rename_i sz es l hr
      rw [hr] at hd
      obtain ⟨es', l', hr', hlen⟩ := shp_slo hd
      rw [hr']
      exact he
    | _ => exact he
  | call c =>
    obtain ⟨f, args, tys⟩ := c
    cases f with
    | builtin b =>
      cases b <;> simp [softOp] at ho
      simp only [eff] at he ⊢
      rw [hev]
      split at he
      · rename_i x _ hl
        have hmem : x ∈ args := by rw [← Array.mem_toList_iff, hl]; simp
        have dir : ∀ r ∈ hands (ev E ⟨t, s, nx⟩ x), shp (s r) = shp (s' r) := fun r hr => hs r (handsL_val (by simp [Op.operands, Call.operands, hmem]) hr)
        try simp only [hl]
        generalize hx : ev E ⟨t, s, nx⟩ x = v at he dir ⊢
        split at he
        · rename_i hT; try simp only [hT]
          cases v <;> simp only [lenStrE] at he ⊢ <;> exact he
        · rename_i hT; try simp only [hT]
          cases v with
          | own r =>
            have hd := dir r (by simp [hands])
            simp only [lenE] at he ⊢
            split at he
            · rename_i sz es l hr
              rw [hr] at hd
              obtain ⟨es', l', hr', hlen⟩ := shp_slo hd
              rw [hr']
              simp only [hlen]
              exact he
            · rename_i es l hr
              rw [hr] at hd
              obtain ⟨es', l', hr', hlen⟩ := shp_sl hd
              rw [hr']
              simp only [hlen]
              exact he
            · cases he
          | _ => simp only [lenE] at he ⊢ <;> exact he
        · cases he
      · rename_i h _; cases h
      · rename_i h _; cases h
      · cases he
    | _ => simp [softOp] at ho
  | _ => simp [softOp] at ho
theorem eff_load {t : Nat → PV} {s s' : Nat → Option Root} {nx : Nat} {o : Op} {pe : Prop × Eff} (ho : isLoad o = true) (hs : ∀ r ∈ handsL (valsOf E ⟨t, s, nx⟩ o), s r = s' r) (he : eff E ⟨t, s, nx⟩ o = some pe) : eff E ⟨t, s', nx⟩ o = some pe := by
  have hev : ev E ⟨t, s', nx⟩ = ev E ⟨t, s, nx⟩ := ev_fun
  cases o with
  | load ty x =>
    have dir : ∀ r ∈ hands (ev E ⟨t, s, nx⟩ x), s r = s' r := fun r hr => hs r (handsL_val (by simp [Op.operands]) hr)
    simp only [eff] at he ⊢
    rw [hev]
    split at he
    case h_2 => cases he
    rename_i i hT
    try simp only [hT]
    cases hx : ev E ⟨t, s, nx⟩ x <;> rw [hx] at he dir <;> simp only [loadE] at he ⊢ <;> try exact he
    rename_i r k off
    rw [← dir r (by simp [hands])]
    exact he
  | _ => simp [isLoad] at ho
theorem put_shape (pv : PV) (k off : Nat) (cs : List PV) : shpP (pv.put k off cs) = shpP pv := by
  unfold PV.put
  cases h : pv.elem k with
  | none => rfl
  | some e =>
    cases pv <;> simp only [PV.elem] at h
    case slo => simp [PV.setElem, shpP]
    case pto =>
      simp only [PV.setElem]
      cases (e.reElem off cs) <;> rfl
    all_goals cases h
theorem mvR_length {es : List PV} {x y : Nat} : (mvR es x y).length = es.length := by
  unfold mvR
  simp only [List.length_append, List.length_take, List.length_map, List.length_drop]
  omega
theorem append_add {ti : TyI} {v : PV} {new : List PV} {l : List Nat} {p : Prop} {e : Eff} (h : appendW st ti v new l = some (p, e)) : ∃ q, e.add = [(st.next, q)] ∧ ∀ r ∈ e.rem, r ∈ hands v ∨ r ∈ l := by
  unfold appendW at h
  split at h
  · split at h
    · simp only [Option.some.injEq, Prod.mk.injEq] at h
      obtain ⟨_, rfl⟩ := h
      exact ⟨_, rfl, fun r hr => .inr hr⟩
    · cases h
  · rename_i r0
    split at h
    · split at h
      · simp only [Option.some.injEq, Prod.mk.injEq] at h
        obtain ⟨_, rfl⟩ := h
        refine ⟨_, rfl, fun r hr => ?_⟩
        rcases List.mem_cons.1 hr with rfl | hr
        · exact .inl (by simp [hands])
        · exact .inr hr
      · cases h
    · cases h
  · cases h
theorem apply_one {s : Nat → Option Root} {rem : List Nat} {r : Nat} {q : Root} : applyStore s rem [(r, q)] r = some q := by
  simp [applyStore, upd]
theorem softW_shape {call : Nat → List PV → Option Ans} {o : Op} {p : Prop} {e : Eff} (he : opR call E st o = some (p, e)) {r : Nat} (hr : r ∈ softW E st o) (hw : r ∈ e.W) : shp (applyStore st.store e.rem e.add r) = shp (st.store r) := by
  cases o with
  | store ty x y =>
    simp only [softW] at hr
    rw [opR_other (by intro f args tys h; cases h)] at he
    simp only [eff] at he
    split at he
    case h_2 => cases he
    rename_i i hT
    cases hx : ev E st x <;> rw [hx] at he hr <;> simp only [softA, List.not_mem_nil, List.mem_singleton] at hr
    rename_i r' k off
    subst hr
    simp only [storeE] at he
    have key : ∀ {rt : Root} {cs : List PV} {rem : List Nat} {l : List (Nat × Nat)}, st.store r = some rt → shp (applyStore st.store rem [(r, ⟨rt.pv.put k off cs, l⟩)] r) = shp (st.store r) := by
      intro rt cs rem l hrt
      rw [apply_one, hrt]
      exact put_shape _ _ _ _
    by_cases hvw : ∃ q x0 y0, ev E st y = .vw q x0 y0
    · obtain ⟨q, x0, y0, hv⟩ := hvw
      rw [hv] at he
      simp only [storeX, storeV] at he
      split at he
      case h_2 => cases he
      rename_i rt c rem hrt _
      split at he
      · cases he
      split at he
      · simp only [Option.some.injEq, Prod.mk.injEq] at he
        obtain ⟨_, rfl⟩ := he
        exact key hrt
      · cases he
    · rw [storeX_not fun q a b he => hvw ⟨q, a, b, he⟩] at he
      unfold storeO at he
      split at he
      case h_2 => cases he
      rename_i rt cs rem hrt _
      split at he
      · cases he
      split at he
      · simp only [Option.some.injEq, Prod.mk.injEq] at he
        obtain ⟨_, rfl⟩ := he
        exact key hrt
      · cases he
  | call c =>
    obtain ⟨f, args, tys⟩ := c
    simp only [softW] at hr
    split at hr
    case h_2 => simp at hr
    rename_i a0 b0 hargs
    rw [opR_other (by intro f args tys h; cases h)] at he
    simp only [eff, hargs] at he
    split at he
    case h_2 => cases he
    split at he
    case isFalse => cases he
    split at he
    case h_2 => cases he
    split at he
    case h_2 => cases he
    rename_i ti _
    cases hx : ev E st b0 <;> rw [hx] at he hr <;> simp only [softV, softN, List.not_mem_nil] at hr
    rename_i q x0 y0
    split at hr
    · simp at hr
    rename_i hno
    simp only [List.mem_singleton] at hr
    subst hr
    simp only [Bool.or_eq_true, List.contains_eq_mem, decide_eq_true_eq, beq_iff_eq, not_or] at hno
    simp only [appendE] at he
    split at he
    · split at he
      case h_2 => cases he
      obtain ⟨p', he'⟩ := andE_some he
      obtain ⟨q, h1, h2⟩ := append_add he'
      simp only [Eff.W, List.mem_append, h1, List.map_cons, List.map_nil, List.mem_singleton] at hw
      rcases hw with hw | hw
      · rcases h2 _ hw with h3 | h3
        · exact absurd h3 hno.1
        · simp at h3
      · exact absurd hw hno.2
    · unfold appendM at he
      split at he
      case h_2 => cases he
      rename_i sz es hst
      split at he
      case h_2 => cases he
      rename_i p' e' hw'
      split at he
      · cases he
      rename_i hrem
      obtain ⟨q, h1, h2⟩ := append_add hw'
      simp only [Option.some.injEq, Prod.mk.injEq] at he
      obtain ⟨_, rfl⟩ := he
      rw [h1]
      have : applyStore st.store e'.rem [(r, ⟨.slo sz (mvR es x0 y0), []⟩), (st.next, q)] r = some ⟨.slo sz (mvR es x0 y0), []⟩ := by
        simp only [applyStore, List.foldl_cons, List.foldl_nil]
        rw [upd_other _ _ _ hno.2, upd_same]
      rw [this, hst]
      simp [shp, shpP, mvR_length]
  | _ => simp [softW] at hr
theorem mem_even {r : Nat} {l : List Nat} : 2 * r ∈ l.map (fun r => 2 * r) ↔ r ∈ l := by
  simp only [List.mem_map]
  exact ⟨fun ⟨a, ha, h⟩ => by rw [show r = a by omega]; exact ha, fun h => ⟨r, h, rfl⟩⟩
theorem mem_odd {r : Nat} {l : List Nat} : 2 * r + 1 ∈ l.map (fun r => 2 * r + 1) ↔ r ∈ l := by
  simp only [List.mem_map]
  exact ⟨fun ⟨a, ha, h⟩ => by rw [show r = a by omega]; exact ha, fun h => ⟨r, h, rfl⟩⟩
theorem even_odd {r : Nat} {l : List Nat} : ¬ 2 * r ∈ l.map (fun r => 2 * r + 1) := by
  simp only [List.mem_map]
  rintro ⟨a, _, h⟩; omega
theorem odd_even {r : Nat} {l : List Nat} : ¬ 2 * r + 1 ∈ l.map (fun r => 2 * r) := by
  simp only [List.mem_map]
  rintro ⟨a, _, h⟩; omega
theorem wTok_even {r : Nat} {sw W : List Nat} : 2 * r ∈ wTok sw W ↔ r ∈ W := by
  unfold wTok
  rw [List.mem_append, mem_even]
  exact ⟨fun h => h.resolve_right even_odd, .inl⟩
theorem wTok_odd {r : Nat} {sw W : List Nat} : 2 * r + 1 ∈ wTok sw W ↔ r ∈ W ∧ r ∉ sw := by
  unfold wTok
  rw [List.mem_append, mem_odd, List.mem_filter]
  simp only [Bool.not_eq_true', List.contains_eq_mem, decide_eq_false_iff_not]
  exact ⟨fun h => h.resolve_left odd_even, .inr⟩
theorem opR_local {st st' : St} {o : Op} {pe : Prop × Eff} (hn : st.next = st'.next) (hv : ∀ x ∈ o.operands, ev E st x = ev E st' x) (ht : ∀ r, 2 * r ∈ touchOp E st o → st.store r = st'.store r) (hsh : ∀ r, 2 * r + 1 ∈ touchOp E st o → shp (st.store r) = shp (st'.store r)) (he : opR call E st o = some pe) : opR call E st' o = some pe := by
  obtain ⟨t, s, nx⟩ := st
  obtain ⟨t', s', nx'⟩ := st'
  simp only at hn ht hsh
  subst hn
  rcases op_cases o with ⟨f, args, tys, rfl⟩ | ho
  · have hf : ev E ⟨t, s, nx⟩ f = ev E ⟨t', s', nx⟩ f := hv f (by simp [Op.operands, Call.operands])
    have ha : args.toList.map (ev E ⟨t, s, nx⟩) = args.toList.map (ev E ⟨t', s', nx⟩) := List.map_congr_left fun x hx => hv x (by simp only [Op.operands, Call.operands, Array.mem_append]; exact .inr (by simpa using hx))
    rw [opR_call] at he ⊢
    rw [← hf, ← ha]
    split at he
    case h_2 => cases he
    rename_i g caps hfo
    unfold callE at he ⊢
    split at he
    · cases he
    rename_i A hA
    simp only at hA
    have htt : ∀ r ∈ touch s (args.toList.map (ev E ⟨t, s, nx⟩) ++ caps), s r = s' r := by
      intro r hr
      have hsub : ∀ q ∈ handsL (args.toList.map (ev E ⟨t, s, nx⟩) ++ caps), q ∈ handsL (valsOf E ⟨t, s, nx⟩ (.call ⟨.value f, args, tys⟩)) := by
        intro q hq
        have happ : ∀ (xs ys : List PV), handsL (xs ++ ys) = handsL xs ++ handsL ys := by
          intro xs ys
          induction xs with
          | nil => rfl
          | cons x xs ih => simp [handsL, ih]
        rw [happ, List.mem_append] at hq
        rcases hq with hq | hq
        · exact handsL_sub (fun y hy => by
            obtain ⟨x, hx, rfl⟩ := List.mem_map.1 hy
            exact val_mem (by simp only [Op.operands, Call.operands, Array.mem_append]; exact .inr (by simpa using hx))) q hq
        · exact handsL_mem (val_mem (x := f) (by simp [Op.operands, Call.operands])) q (by rw [hfo]; exact hq)
      obtain ⟨q, hq, hr⟩ := List.mem_flatMap.1 hr
      exact ht r (by simp only [touchOp, storeless, softOp, isLoad, Bool.false_eq_true, if_false]; exact mem_even.2 (List.mem_flatMap.2 ⟨q, hsub q hq, hr⟩))
    have := mkArgs_local hA htt
    simp only [this]
    have hfz := frzRo_local (s := s) (s' := s') hA htt
    have hret : ∀ x, retE E ⟨t', s', nx⟩ g (hands0 (E.M g).modes (args.toList.map (ev E ⟨t, s, nx⟩) ++ caps)) A x = retE E ⟨t, s, nx⟩ g (hands0 (E.M g).modes (args.toList.map (ev E ⟨t, s, nx⟩) ++ caps)) A x := by
      intro x
      cases x with
      | none => rfl
      | some ans => simp only [retE]; rw [hfz]
    rw [hret]
    exact he
  · rw [opR_other ho] at he ⊢
    have h1 : eff E ⟨t, s', nx⟩ o = eff E ⟨t', s', nx⟩ o := eff_temps (st := ⟨t, s', nx⟩) (st' := ⟨t', s', nx⟩) rfl rfl (fun x hx => by rw [ev_store (s' := s) (n' := nx)]; exact hv x hx)
    rw [← h1]
    unfold touchOp at ht hsh
    split at ht
    · rename_i hs
      rw [← eff_storeless (s := s) hs]; exact he
    rename_i hn1
    rw [if_neg hn1] at hsh
    split at ht
    · rename_i hs
      rw [if_pos hs] at hsh
      exact eff_soft hs (fun r hr => hsh r (mem_odd.2 hr)) he
    split at ht
    · rename_i hs
      exact eff_load hs (fun r hr => ht r (mem_even.2 hr)) he
    · exact eff_store (fun r hr => ht r (mem_even.2 hr)) he
theorem yield_bool (h : RelF E w0 R0 F0 gh n Fr st a w) {ops : Array Oper} {j d : Nat} {b : Bool} (hj : (ops[j]?).bind (·.dst) = some d) (hb : ev E st (.tmp d) = .bool b) : yielded ops a.tmps j = some b := by
  obtain ⟨R, σ, fps, h⟩ := h
  have := ev_V h (.tmp d)
  rw [hb] at this
  simp only [V] at this
  have h1 := this.1
  simp only [Act.eval] at h1
  unfold yielded
  rw [hj]
  simp only [Option.bind_some]
  rw [Array.getD_eq_getD_getElem?] at h1
  cases hx : a.tmps[d]? with
  | none => rw [hx] at h1; simp [Go.undef] at h1
  | some v => rw [hx] at h1; simp at h1; subst h1; rfl
theorem yield_void (h : RelF E w0 R0 F0 gh n Fr st a w) {ops : Array Oper} {j d : Nat} (hj : (ops[j]?).bind (·.dst) = some d) (hb : ev E st (.tmp d) = .void) : yielded ops a.tmps j = none := by
  obtain ⟨R, σ, fps, h⟩ := h
  have := ev_V h (.tmp d)
  rw [hb] at this
  simp only [V] at this
  have h1 := this.1
  simp only [Act.eval] at h1
  unfold yielded
  rw [hj]
  simp only [Option.bind_some]
  rw [Array.getD_eq_getD_getElem?] at h1
  cases hx : a.tmps[d]? with
  | none => rfl
  | some v => rw [hx] at h1; simp at h1; subst h1; rfl
theorem RelF.skip (h : RelF E w0 R0 F0 gh n Fr st a w) {dst : Option Nat} (hd : dstOk n dst) : RelF E w0 R0 F0 gh n Fr (st.skip dst) (a.put dst Go.undef) w := by
  obtain ⟨R, σ, fps, h⟩ := h
  have := h.value (v := .void) (u := Go.undef) hd (by simp [V, Go.undef])
  exact RelF.of ⟨R, σ, fps, this⟩ (fun r hr => ⟨hr, by omega⟩) rfl rfl
theorem setT_same {d : Nat} {v : PV} (h : st.temps d = v) : st.setT d v = st := by
  obtain ⟨t, s, nx⟩ := st
  simp only [St.setT]
  congr 1
  funext x
  by_cases hx : x = d
  · subst hx; rw [upd_same]; exact h.symm
  · rw [upd_other _ _ _ hx]
theorem ev_bool {d : Nat} {b : Bool} (h : ev E st (.tmp d) = .bool b) : st.temps d = .bool b := by
  simp only [ev] at h
  split at h
  · exact h
  · cases h
theorem drawOk_after {ops : Array Oper} (h : drawOk ops = true) {i : Nat} {o : Oper} (hi : ops[i]? = some o) : ∀ e ∈ o.after, Region.binds .any e = true → e.on < i := by
  have hlt : i < ops.size := (Array.getElem?_eq_some_iff.1 hi).1
  have := List.all_eq_true.1 h i (by simpa using hlt)
  simp only [hi, Bool.and_eq_true] at this
  have h1 := this.1
  exact fun e he hb => by have := List.all_eq_true.1 h1 e (Array.mem_toList_iff.2 he); simpa [hb] using this
theorem drawOk_guard {ops : Array Oper} (h : drawOk ops = true) {i : Nat} {o : Oper} (hi : ops[i]? = some o) {g : Nat} {want : Bool} (hg : o.guard = some (g, want)) : ∃ e ∈ o.after, Region.binds .any e = true ∧ e.on = g := by
  have hlt : i < ops.size := (Array.getElem?_eq_some_iff.1 hi).1
  have := List.all_eq_true.1 h i (by simpa using hlt)
  simp only [hi, hg, Bool.and_eq_true] at this
  obtain ⟨e, he, hb⟩ := List.any_eq_true.1 this.2.1
  exact ⟨e, Array.mem_toList_iff.1 he, by simpa using hb⟩
theorem drawOk_dst {ops : Array Oper} (h : drawOk ops = true) {i j : Nat} {o : Oper} {d : Nat} (hi : ops[i]? = some o) (hj : dstAt ops j = some d) : (j = i ∨ o.dst ≠ some d) ∧ ((∃ x ∈ o.op.operands, x = .tmp d) → (∃ e ∈ o.after, Region.binds .any e = true ∧ e.on = j) ∨ ∃ oj, ops[j]? = some oj ∧ ∃ e ∈ oj.after, Region.binds .any e = true ∧ e.on = i) := by
  have hlt : i < ops.size := (Array.getElem?_eq_some_iff.1 hi).1
  have hjl : j < ops.size := by
    unfold dstAt at hj
    cases hx : ops[j]? with
    | none => simp [hx] at hj
    | some _ => exact (Array.getElem?_eq_some_iff.1 hx).1
  have := List.all_eq_true.1 h i (by simpa using hlt)
  simp only [hi, Bool.and_eq_true] at this
  have h2 := List.all_eq_true.1 this.2.2 j (by simpa using hjl)
  simp only [hj, Bool.and_eq_true, Bool.or_eq_true] at h2
  refine ⟨by simpa using h2.1, fun ⟨x, hx, hxd⟩ => ?_⟩
  rcases h2.2 with (h3 | h3) | h3
  · have : (o.op.operands.toList.any (isTmp d)) = true := List.any_eq_true.2 ⟨x, Array.mem_toList_iff.2 hx, by subst hxd; simp [isTmp]⟩
    rw [this] at h3
    cases h3
  · obtain ⟨e, he, hb⟩ := List.any_eq_true.1 h3
    exact .inl ⟨e, Array.mem_toList_iff.1 he, by simpa using hb⟩
  · split at h3
    · rename_i oj hoj
      obtain ⟨e, he, hb⟩ := List.any_eq_true.1 h3
      exact .inr ⟨oj, hoj, e, Array.mem_toList_iff.1 he, by simpa using hb⟩
    · cases h3
theorem dstAt_get {ops : Array Oper} {i : Nat} {o : Oper} (hi : ops[i]? = some o) : dstAt ops i = o.dst := by simp [dstAt, hi]
def StepD (call : Nat → List PV → Option Ans) (E : Env) (n : Nat) (ops : Array Oper) (o : Oper) (s s' : St) (T W : List Nat) : Prop :=
  dstOk n o.dst ∧ (((o.guard = none ∨ ∃ g want d, o.guard = some (g, want) ∧ dstAt ops g = some d ∧ ev E s (.tmp d) = .bool want) ∧
      ∃ p e, opR call E s o.op = some (p, e) ∧ p ∧ s' = s.app o.dst e ∧ T = touchOp E s o.op ∧ W = wTok (softW E s o.op) e.W) ∨
    ((∃ g want d, o.guard = some (g, want) ∧ dstAt ops g = some d ∧ ((∃ b, ev E s (.tmp d) = .bool b ∧ b ≠ want) ∨ ev E s (.tmp d) = .void)) ∧ s' = s.skip o.dst ∧ T = [] ∧ W = []))
theorem StepD.next {ops : Array Oper} {o : Oper} {s s' : St} {T W : List Nat} (h : StepD call E n ops o s s' T W) : s.next ≤ s'.next := by
  rcases h.2 with ⟨_, p, e, h1, _, rfl, _⟩ | ⟨_, rfl, _⟩
  · exact opR_nx h1
  · exact Nat.le_refl _
theorem StepD.temps {ops : Array Oper} {o : Oper} {s s' : St} {T W : List Nat} (h : StepD call E n ops o s s' T W) {t : Nat} (ht : o.dst ≠ some t) : s'.temps t = s.temps t := by
  have key : ∀ v, s.put o.dst v t = s.temps t := by
    intro v
    cases hd : o.dst with
    | none => rfl
    | some d => exact upd_other _ _ _ (by rintro rfl; exact ht hd)
  rcases h.2 with ⟨_, p, e, _, _, rfl, _⟩ | ⟨_, rfl, _⟩
  · exact key _
  · exact key _
theorem applyStore_not {s : Nat → Option Root} {rem : List Nat} {add : List (Nat × Root)} {r : Nat} (h : r ∉ rem ++ add.map (·.1)) : applyStore s rem add r = s r := by
  simp only [List.mem_append, not_or] at h
  rw [store_rem h.2, if_neg h.1]
theorem foldAdd_same (add : List (Nat × Root)) : ∀ (s s' : Nat → Option Root) (r : Nat), r ∈ add.map (·.1) → (add.foldl (fun s x => upd s x.1 (some x.2)) s) r = (add.foldl (fun s x => upd s x.1 (some x.2)) s') r := by
  induction add with
  | nil => intro s s' r h; simp at h
  | cons x add ih =>
    intro s s' r h
    rw [List.foldl_cons, List.foldl_cons]
    by_cases hr : r ∈ add.map (·.1)
    · exact ih _ _ r hr
    · rw [foldAdd_not _ _ _ hr, foldAdd_not _ _ _ hr]
      rw [List.map_cons] at h
      rcases List.mem_cons.1 h with rfl | h
      · rw [upd_same, upd_same]
      · exact absurd h hr
theorem applyStore_mem {s s' : Nat → Option Root} {rem : List Nat} {add : List (Nat × Root)} {r : Nat} (h : r ∈ rem ++ add.map (·.1)) : applyStore s rem add r = applyStore s' rem add r := by
  by_cases ha : r ∈ add.map (·.1)
  · exact foldAdd_same add _ _ r ha
  · have hr : r ∈ rem := (List.mem_append.1 h).resolve_right ha
    rw [store_rem ha, store_rem ha, if_pos hr, if_pos hr]
theorem StepD.store {ops : Array Oper} {o : Oper} {s s' : St} {T W : List Nat} (h : StepD call E n ops o s s' T W) {r : Nat} (hr : 2 * r ∉ W) : s'.store r = s.store r := by
  rcases h.2 with ⟨_, p, e, _, _, rfl, _, rfl⟩ | ⟨_, rfl, _⟩
  · exact applyStore_not fun h => hr (wTok_even.2 h)
  · rfl
theorem StepD.shape {ops : Array Oper} {o : Oper} {s s' : St} {T W : List Nat} (h : StepD call E n ops o s s' T W) {r : Nat} (hr : 2 * r + 1 ∉ W) : shp (s'.store r) = shp (s.store r) := by
  rcases h.2 with ⟨_, p, e, h1, _, rfl, _, rfl⟩ | ⟨_, rfl, _⟩
  · by_cases hw : r ∈ e.W
    · by_cases hs : r ∈ softW E s o.op
      · exact softW_shape h1 hs hw
      · exact absurd (wTok_odd.2 ⟨hw, hs⟩) hr
    · exact congrArg shp (applyStore_not hw)
  · rfl
theorem StepD.both {ops : Array Oper} {o : Oper} {s s' : St} {T W : List Nat} (h : StepD call E n ops o s s' T W) {r : Nat} (hr : 2 * r + 1 ∈ W) : 2 * r ∈ W := by
  rcases h.2 with ⟨_, p, e, h1, _, rfl, _, rfl⟩ | ⟨_, rfl, _, rfl⟩
  · exact wTok_even.2 (wTok_odd.1 hr).1
  · simp at hr
inductive Bef (ops : Array Oper) (i : Nat) : Nat → Prop
  | one {j : Nat} {o : Oper} {e : Edge} (ho : ops[j]? = some o) (he : e ∈ o.after) (hb : Region.binds .any e = true) (hi : e.on = i) : Bef ops i j
  | more {j : Nat} {o : Oper} {e : Edge} (ho : ops[j]? = some o) (he : e ∈ o.after) (hb : Region.binds .any e = true) (hi : Bef ops i e.on) : Bef ops i j
theorem Bef.closed {ops : Array Oper} {L : Nat → Prop} (hL : ∀ j o, ops[j]? = some o → L j → ∀ e ∈ o.after, Region.binds .any e = true → L e.on) {i j : Nat} (h : Bef ops i j) : L j → L i := by
  induction h with
  | one ho he hb hi => intro hj; rw [← hi]; exact hL _ _ ho hj _ he hb
  | more ho he hb _ ih => intro hj; exact ih (hL _ _ ho hj _ he hb)
theorem Bef.after {ops : Array Oper} {L : Nat → Prop} (hL : ∀ j o, ops[j]? = some o → L j → ∀ e ∈ o.after, Region.binds .any e = true → L e.on) {i j : Nat} (h : Bef ops i j) {o : Oper} (ho : ops[j]? = some o) (ha : ∀ e ∈ o.after, Region.binds .any e = true → L e.on) : L i := by
  cases h with
  | one ho' he hb hi =>
    rw [ho] at ho'
    obtain rfl := Option.some.inj ho'
    rw [← hi]; exact ha _ he hb
  | more ho' he hb hi =>
    rw [ho] at ho'
    obtain rfl := Option.some.inj ho'
    exact hi.closed hL (ha _ he hb)
theorem Bef.lt {ops : Array Oper} (hok : drawOk ops = true) {i j : Nat} (h : Bef ops i j) : i < j := by
  induction h with
  | one ho he hb hi => rw [← hi]; exact drawOk_after hok ho _ he hb
  | more ho he hb _ ih => exact Nat.lt_trans ih (drawOk_after hok ho _ he hb)
theorem before_inner (ops : Array Oper) (acc : Array Nat) (hacc : ∀ k, ∀ i, (acc.getD k 0).testBit i = true → Bef ops i k) : ∀ (l : List Edge) (m i : Nat), (l.foldl (fun s e => if Region.binds .any e then s ||| 2 ^ e.on ||| acc.getD e.on 0 else s) m).testBit i = true → m.testBit i = true ∨ ∃ e ∈ l, Region.binds .any e = true ∧ (e.on = i ∨ Bef ops i e.on)
  | [], m, i, h => .inl h
  | e :: l, m, i, h => by
    rw [List.foldl_cons] at h
    rcases before_inner ops acc hacc l _ i h with h | ⟨e', he', hb, h⟩
    · split at h
      · rename_i hb
        rw [Nat.testBit_or, Nat.testBit_or, Bool.or_eq_true, Bool.or_eq_true] at h
        rcases h with (h | h) | h
        · exact .inl h
        · refine .inr ⟨e, by simp, hb, .inl ?_⟩
          rw [Nat.testBit_two_pow] at h
          simpa using h
        · exact .inr ⟨e, by simp, hb, .inr (hacc _ _ h)⟩
      · exact .inl h
    · exact .inr ⟨e', by simp [he'], hb, h⟩
theorem before_bef (ops : Array Oper) : ∀ k, ∀ i, ((Region.before ops).getD k 0).testBit i = true → Bef ops i k := by
  have key : ∀ (l : List Oper) (acc : Array Nat) (d : Nat), acc.size = d → (∀ j, l[j]? = ops[d + j]?) → (∀ k, ∀ i, (acc.getD k 0).testBit i = true → Bef ops i k) →
      ∀ k, ∀ i, ((l.foldl (fun acc o => acc.push (o.after.foldl (fun s e => if Region.binds .any e then s ||| 2 ^ e.on ||| acc.getD e.on 0 else s) 0)) acc).getD k 0).testBit i = true → Bef ops i k := by
    intro l
    induction l with
    | nil => intro acc d _ _ h; exact h
    | cons o l ih =>
      intro acc d hd hl h
      rw [List.foldl_cons]
      refine ih _ (d + 1) (by simp [hd]) (fun j => by have := hl (j + 1); rw [List.getElem?_cons_succ] at this; rw [this]; congr 1; omega) ?_
      intro k i hk
      have ho : ops[d]? = some o := by have := hl 0; simpa using this.symm
      rw [Array.getD_eq_getD_getElem?, Array.getElem?_push] at hk
      split at hk
      · rename_i hkd
        simp only [Option.getD_some] at hk
        rw [← Array.foldl_toList] at hk
        rcases before_inner ops acc h o.after.toList 0 i hk with h0 | ⟨e, he, hb, h1⟩
        · simp at h0
        · rw [hkd, hd]
          rcases h1 with h1 | h1
          · exact .one ho (by simpa using he) hb h1
          · exact .more ho (by simpa using he) hb h1
      · exact h k i (by rw [Array.getD_eq_getD_getElem?]; exact hk)
  intro k i h
  unfold Region.before at h
  rw [← Array.foldl_toList] at h
  exact key ops.toList #[] 0 rfl (fun j => by simp) (fun k i h => by simp at h) k i h
theorem filt_le {p q : Nat → Bool} (h : ∀ x, q x = true → p x = true) : ∀ l : List Nat, (l.filter q).length ≤ (l.filter p).length
  | [] => by simp
  | x :: l => by
    have ih := filt_le h l
    simp only [List.filter_cons]
    cases hq : q x with
    | true => simp [h x hq]; exact ih
    | false => cases hp : p x <;> simp <;> omega
theorem filt_lt {p q : Nat → Bool} (h : ∀ x, q x = true → p x = true) {i : Nat} (hp : p i = true) (hq : q i = false) : ∀ l : List Nat, i ∈ l → (l.filter q).length < (l.filter p).length
  | [], hi => by simp at hi
  | x :: l, hi => by
    simp only [List.filter_cons]
    by_cases hx : x = i
    · subst hx
      have := filt_le h l
      simp [hp, hq]; omega
    · have := filt_lt h hp hq l (by rcases List.mem_cons.1 hi with rfl | hi; exact absurd rfl hx; exact hi)
      cases hqx : q x with
      | true => simp [h x hqx]; exact this
      | false => cases hpx : p x <;> simp <;> omega
theorem ready_nil {ops : Array Oper} (hok : drawOk ops = true) {listed : Array Bool} (hsz : listed.size = ops.size) (hr : Region.ready .any ops listed = []) : ∀ k, k < ops.size → listed.getD k true = true := by
  intro k
  induction k using Nat.strongRecOn with
  | _ k ih =>
    intro hk
    cases hl : listed.getD k true with
    | true => rfl
    | false =>
      exfalso
      have : k ∈ Region.ready .any ops listed := by
        rw [mem_ready]
        refine ⟨hl, ops[k], by simp [hk], fun e he hbb => ?_⟩
        have hlt := drawOk_after hok (i := k) (o := ops[k]) (by simp [hk]) e he hbb
        have := ih e.on hlt (by omega)
        have hon : e.on < listed.size := by omega
        simp [hon] at this ⊢
        exact this
      rw [hr] at this
      cases this
end
end Go.Proofs.YtmanllfmgghadaaGreatDoor.PVE
namespace Go.Proofs.YtmanllfmgghadaaGreatDoor.PVE
open PV
section
variable {P : Program} {E : Env} {w0 : World} {R0 : Nat → Prop} {F0 : List Nat} {gh : Nat → Value} {n : Nat} {Fr : Nat → Prop} {st : St} {a : Act} {w : World} {call : Nat → List PV → Option Ans} [Dm]
structure Text (call : Nat → List PV → Option Ans) (E : Env) (n : Nat) (ops : Array Oper) (Sf : Nat → St) (T W : Nat → List Nat) : Prop where
  step : ∀ i o, ops[i]? = some o → StepD call E n ops o (Sf i) (Sf (i + 1)) (T i) (W i)
  apart : ∀ i j, i < ops.size → j < ops.size → i ≠ j → (∀ r ∈ W i, r ∉ T j ++ W j) ∨ Bef ops i j ∨ Bef ops j i
section text
variable {ops : Array Oper} {Sf : Nat → St} {T W : Nat → List Nat} (hx : Text call E n ops Sf T W) (hok : drawOk ops = true)
include hx
theorem Text.next_le : ∀ {i j : Nat}, i ≤ j → j ≤ ops.size → (Sf i).next ≤ (Sf j).next := by
  intro i j hij
  induction hij with
  | refl => intro _; exact Nat.le_refl _
  | @step j hij ih =>
    intro hj
    exact Nat.le_trans (ih (by omega)) (hx.step j ops[j] (by simp)).next
theorem Text.store_same {r : Nat} : ∀ {i j : Nat}, i ≤ j → j ≤ ops.size → (∀ k, i ≤ k → k < j → 2 * r ∉ W k) → (Sf j).store r = (Sf i).store r := by
  intro i j hij
  induction hij with
  | refl => intro _ _; rfl
  | @step j hij ih =>
    intro hj hw
    rw [(hx.step j ops[j] (by simp)).store (hw j hij (Nat.lt_succ_self _))]
    exact ih (by omega) fun k h1 h2 => hw k h1 (by omega)
theorem Text.shape_same {r : Nat} : ∀ {i j : Nat}, i ≤ j → j ≤ ops.size → (∀ k, i ≤ k → k < j → 2 * r + 1 ∉ W k) → shp ((Sf j).store r) = shp ((Sf i).store r) := by
  intro i j hij
  induction hij with
  | refl => intro _ _; rfl
  | @step j hij ih =>
    intro hj hw
    rw [(hx.step j ops[j] (by simp)).shape (hw j hij (Nat.lt_succ_self _))]
    exact ih (by omega) fun k h1 h2 => hw k h1 (by omega)
theorem Text.temps_same {t : Nat} : ∀ {i j : Nat}, i ≤ j → j ≤ ops.size → (∀ k, i ≤ k → k < j → dstAt ops k ≠ some t) → (Sf j).temps t = (Sf i).temps t := by
  intro i j hij
  induction hij with
  | refl => intro _ _; rfl
  | @step j hij ih =>
    intro hj hw
    rw [(hx.step j ops[j] (by simp)).temps (by rw [← dstAt_get (ops := ops) (i := j) (by simp)]; exact hw j hij (Nat.lt_succ_self _))]
    exact ih (by omega) fun k h1 h2 => hw k h1 (by omega)
end text
theorem last_of (p : Nat → Prop) : ∀ m, (∃ k, k < m ∧ p k ∧ ∀ k', k' < m → p k' → k' ≤ k) ∨ ∀ k, k < m → ¬ p k
  | 0 => .inr fun k h => by omega
  | m + 1 => by
    by_cases hm : p m
    · exact .inl ⟨m, Nat.lt_succ_self _, hm, fun k' h _ => by omega⟩
    · rcases last_of p m with ⟨k, h1, h2, h3⟩ | h
      · exact .inl ⟨k, by omega, h2, fun k' h4 h5 => h3 k' (by
          rcases Nat.lt_succ_iff_lt_or_eq.1 h4 with h | h
          · exact h
          · subst h; exact absurd h5 hm) h5⟩
      · exact .inr fun k hk => by
          rcases Nat.lt_succ_iff_lt_or_eq.1 hk with h' | h'
          · exact h k h'
          · subst h'; exact hm
structure At (ops : Array Oper) (Sf : Nat → St) (W : Nat → List Nat) (L : Nat → Prop) (s : St) : Prop where
  tm : ∀ k d, L k → k < ops.size → dstAt ops k = some d → s.temps d = (Sf (k + 1)).temps d
  tn : ∀ t, (∀ k, L k → k < ops.size → dstAt ops k ≠ some t) → s.temps t = (Sf 0).temps t
  st : ∀ r, (∃ k, k < ops.size ∧ L k ∧ 2 * r ∈ W k ∧ (∀ k', k' < ops.size → L k' → 2 * r ∈ W k' → k' ≤ k) ∧ s.store r = (Sf (k + 1)).store r) ∨ ((∀ k, k < ops.size → L k → 2 * r ∉ W k) ∧ s.store r = (Sf 0).store r)
def FrL (ops : Array Oper) (Sf : Nat → St) (L : Nat → Prop) : Nat → Prop := fun r => (Sf 0).next ≤ r ∧ ∀ k, L k → k < ops.size → ¬ ((Sf k).next ≤ r ∧ r < (Sf (k + 1)).next)
theorem any_sound (hT : TyOk P E.T) (hS : SOk P E.S) (hcall : CallOk P E call) {ops : Array Oper} (hok : drawOk ops = true) {Sf : Nat → St} {T W : Nat → List Nat} (hx : Text call E n ops Sf T W) {Qx : Exit → Act → World → Prop}
    (hQ : ∀ a w, RelX E w0 R0 F0 gh n (Sf ops.size) a w → Qx .normal a w) :
    ∀ (fuel : Nat) (listed : Array Bool) (st : St) (a : Act) (w : World), listed.size = ops.size → ((List.range ops.size).filter fun k => !listed.getD k true).length ≤ fuel →
      (∀ j o, ops[j]? = some o → listed.getD j true = true → ∀ e ∈ o.after, Region.binds .any e = true → listed.getD e.on true = true) →
      At ops Sf W (fun k => listed.getD k true = true) st → RelF E w0 R0 F0 gh n (FrL ops Sf fun k => listed.getD k true = true) st a w →
      wpAny P .any ops Qx fuel listed a w := by
  have fin : ∀ (listed : Array Bool) (st : St) (a : Act) (w : World), (∀ k, k < ops.size → listed.getD k true = true) → At ops Sf W (fun k => listed.getD k true = true) st → RelF E w0 R0 F0 gh n (FrL ops Sf fun k => listed.getD k true = true) st a w → Qx .normal a w := by
    intro listed st a w hall hat hrel
    refine hQ a w (hrel.of (fun r hr => ⟨Nat.le_trans (hx.next_le (Nat.zero_le _) (Nat.le_refl _)) hr, fun k _ hk => ?_⟩) ?_ ?_)
    · rintro ⟨_, h2⟩
      have := hx.next_le (i := k + 1) (j := ops.size) (by omega) (Nat.le_refl _)
      omega
    · funext t
      rcases last_of (fun k => dstAt ops k = some t) ops.size with ⟨k, h1, h2, h3⟩ | h
      · rw [hat.tm k t (hall k h1) h1 h2]
        exact hx.temps_same (by omega) (Nat.le_refl _) fun k' h4 h5 h6 => by have := h3 k' h5 h6; omega
      · rw [hat.tn t fun k _ hk => h k hk]
        exact hx.temps_same (Nat.zero_le _) (Nat.le_refl _) fun k _ hk => h k hk
    · funext r
      rcases hat.st r with ⟨k, h1, _, _, h4, h5⟩ | ⟨h1, h2⟩
      · rw [h5]
        exact hx.store_same (by omega) (Nat.le_refl _) fun k' h6 h7 h8 => by have := h4 k' h7 (hall k' h7) h8; omega
      · rw [h2]
        exact hx.store_same (Nat.zero_le _) (Nat.le_refl _) fun k _ hk => h1 k hk (hall k hk)
  intro fuel
  induction fuel with
  | zero =>
    intro listed st a w hsz hfu hcl hat hrel
    have hall : ∀ k, k < ops.size → listed.getD k true = true := by
      intro k hk
      have : ((List.range ops.size).filter fun k => !listed.getD k true) = [] := List.length_eq_zero_iff.1 (Nat.le_zero.1 hfu)
      have := List.filter_eq_nil_iff.1 this k (by simpa using hk)
      simpa using this
    refine ⟨?_, fin listed st a w hall hat hrel⟩
    cases hr : Region.ready .any ops listed with
    | nil => rfl
    | cons x xs =>
      have hx : x ∈ Region.ready .any ops listed := by rw [hr]; simp
      rw [mem_ready] at hx
      obtain ⟨h1, o, h2, _⟩ := hx
      rw [hall x (Array.getElem?_eq_some_iff.1 h2).1] at h1
      cases h1
  | succ fuel ih =>
    intro listed st a w hsz hfu hcl hat hrel
    refine ⟨fun hr => fin listed st a w (ready_nil hok hsz hr) hat hrel, fun i hi => ?_⟩
    rw [mem_ready] at hi
    obtain ⟨hun, o, ho, hafter0⟩ := hi
    have hlt : i < ops.size := (Array.getElem?_eq_some_iff.1 ho).1
    have hafter : ∀ e ∈ o.after, Region.binds .any e = true → listed.getD e.on true = true := by
      intro e he hb
      have h1 := drawOk_after hok ho e he hb
      have h2 := hafter0 e he hb
      have : e.on < listed.size := by omega
      simp [this] at h2 ⊢
      exact h2
    have hun' : ¬ listed.getD i true = true := by rw [hun]; simp
    -- who is listed stands right
    have noafter : ∀ k, k < ops.size → listed.getD k true = true → ¬ Bef ops i k := fun k hk hl hb => hun' (hb.closed (L := fun k => listed.getD k true = true) hcl hl)
    have before : ∀ k, Bef ops k i → listed.getD k true = true := fun k hb => hb.after (L := fun k => listed.getD k true = true) hcl ho hafter
    have hstep := hx.step i o ho
    -- those of the listed that write what it touches come before it in the text, and all that do so are listed
    have wl : ∀ r ∈ T i ++ W i, ∀ k, k < ops.size → listed.getD k true = true → r ∈ W k → k < i := by
      intro r hr k hk hl hrk
      have hne : k ≠ i := by rintro rfl; exact hun' hl
      rcases hx.apart k i hk hlt hne with h | h | h
      · exact absurd hr (h r hrk)
      · exact h.lt hok
      · exact absurd h (noafter k hk hl)
    have wb : ∀ r ∈ T i ++ W i, ∀ k, k < i → r ∈ W k → listed.getD k true = true := by
      intro r hr k hk hrk
      rcases hx.apart k i (by omega) hlt (by omega) with h | h | h
      · exact absurd hr (h r hrk)
      · exact before k h
      · have := h.lt hok; omega
    have hstore : ∀ r, 2 * r ∈ T i ++ W i → st.store r = (Sf i).store r := by
      intro r hr
      rcases hat.st r with ⟨k, h1, h2, h3, h4, h5⟩ | ⟨h1, h2⟩
      · have hki := wl _ hr k h1 h2 h3
        rw [h5]
        exact (hx.store_same (i := k + 1) (j := i) (by omega) (by omega) fun k' h6 h7 h8 => by have := h4 k' (by omega) (wb _ hr k' h7 h8) h8; omega).symm
      · rw [h2]
        exact (hx.store_same (i := 0) (j := i) (Nat.zero_le _) (by omega) fun k' _ h7 h8 => h1 k' (by omega) (wb _ hr k' h7 h8) h8).symm
    have hshape : ∀ r, 2 * r + 1 ∈ T i → shp (st.store r) = shp ((Sf i).store r) := by
      intro r hr
      have hr' := List.mem_append_left (W i) hr
      have both : ∀ k, k < ops.size → 2 * r + 1 ∈ W k → 2 * r ∈ W k := fun k hk h => (hx.step k ops[k] (by simp)).both h
      rcases hat.st r with ⟨k, h1, h2, h3, h4, h5⟩ | ⟨h1, h2⟩
      · rw [h5]
        have hki : k ≠ i := by rintro rfl; exact hun' h2
        by_cases hlt2 : k < i
        · exact (hx.shape_same (i := k + 1) (j := i) (by omega) (by omega) fun k' h6 h7 h8 => by
            have := h4 k' (by omega) (wb _ hr' k' h7 h8) (both k' (by omega) h8); omega).symm
        · refine hx.shape_same (i := i) (j := k + 1) (by omega) (by omega) fun k' h6 h7 h8 => ?_
          have h8' := both k' (by omega) h8
          have hul : ¬ listed.getD k' true = true := fun hl => by have := wl _ hr' k' (by omega) hl h8; omega
          have hne : k' ≠ k := by rintro rfl; exact hul h2
          rcases hx.apart k k' h1 (by omega) (Ne.symm hne) with h | h | h
          · exact absurd (List.mem_append_right _ h8') (h _ h3)
          · have := h.lt hok; omega
          · exact hul (h.closed (L := fun k => listed.getD k true = true) hcl h2)
      · rw [h2]
        exact (hx.shape_same (i := 0) (j := i) (Nat.zero_le _) (by omega) fun k' _ h7 h8 => h1 k' (by omega) (wb _ hr' k' h7 h8) (both k' (by omega) h8)).symm
    have htemps : ∀ d, (∀ j, dstAt ops j = some d → (∃ e ∈ o.after, Region.binds .any e = true ∧ e.on = j) ∨ ∃ oj, ops[j]? = some oj ∧ ∃ e ∈ oj.after, Region.binds .any e = true ∧ e.on = i) → st.temps d = (Sf i).temps d := by
      intro d hd
      by_cases hk : ∃ k, k < ops.size ∧ dstAt ops k = some d
      · obtain ⟨k, hk, hkd⟩ := hk
        rcases hd k hkd with hd | ⟨ok, hok', e, he, hb, hei⟩
        case inr =>
          have hik : i < k := by have := drawOk_after hok hok' e he hb; omega
          have hnk : ¬ listed.getD k true = true := fun hl => by
            have := hcl k ok hok' hl e he hb
            rw [hei] at this
            exact hun' this
          have huniq : ∀ k', k' < ops.size → dstAt ops k' = some d → k' = k := fun k' hk' hd' => by
            have hko : ops[k']? = some ops[k'] := by simp [hk']
            rcases (drawOk_dst hok hko hkd).1 with h | h
            · exact h.symm
            · rw [dstAt_get hko] at hd'; exact absurd hd' h
          rw [hat.tn d fun k' hl hk' hd' => hnk (by rw [← huniq k' hk' hd']; exact hl)]
          exact (hx.temps_same (i := 0) (j := i) (Nat.zero_le _) (by omega) fun k' _ h3 h4 => by have := huniq k' (by omega) h4; omega).symm
        obtain ⟨e, he, hb, rfl⟩ := hd
        have h1 := drawOk_after hok ho e he hb
        rw [hat.tm _ d (hafter e he hb) hk hkd]
        refine (hx.temps_same (i := e.on + 1) (j := i) (by omega) (by omega) fun k' h2 h3 h4 => ?_).symm
        have hko : ops[k']? = some ops[k'] := by simp
        rcases (drawOk_dst hok hko hkd).1 with h | h
        · omega
        · rw [dstAt_get hko] at h4; exact h h4
      · have hno : ∀ k, k < ops.size → dstAt ops k ≠ some d := fun k hk' hd => hk ⟨k, hk', hd⟩
        rw [hat.tn d fun k _ h => hno k h]
        exact (hx.temps_same (i := 0) (j := i) (Nat.zero_le _) (by omega) fun k _ h => hno k (by omega)).symm
    have hops : ∀ x ∈ o.op.operands, ev E (Sf i) x = ev E st x := by
      intro x hx'
      cases x with
      | tmp t =>
        simp only [ev]
        rw [htemps t fun j hj => (drawOk_dst hok ho hj).2 ⟨_, hx', rfl⟩]
      | _ => rfl
    have hguard : ∀ g want d, o.guard = some (g, want) → dstAt ops g = some d → ev E st (.tmp d) = ev E (Sf i) (.tmp d) := by
      intro g want d hg hgd
      simp only [ev]
      rw [htemps d fun j hj => ?_]
      obtain ⟨e, he, hb, hon⟩ := drawOk_guard hok ho hg
      refine .inl ⟨e, he, hb, ?_⟩
      rw [hon]
      -- one temporary, one operation
      have hgl : g < ops.size := by
        unfold dstAt at hgd
        cases hx' : ops[g]? with
        | none => simp [hx'] at hgd
        | some _ => exact (Array.getElem?_eq_some_iff.1 hx').1
      have hgo : ops[g]? = some ops[g] := by simp [hgl]
      rcases (drawOk_dst hok hgo hj).1 with h | h
      · exact h.symm
      · rw [dstAt_get hgo] at hgd; exact absurd hgd h
    have hset : ∀ k, (listed.setIfInBounds i true).getD k true = true ↔ (k = i ∨ listed.getD k true = true) := by
      intro k
      by_cases hki : k = i
      · subst hki
        simp [hsz, hlt]
      · have : i ≠ k := fun h => hki h.symm
        rw [getD_set_ne true this]
        simp [hki]
    -- what follows
    have next : ∀ (st' : St) u w', (∀ t, o.dst ≠ some t → st'.temps t = st.temps t) → (∀ d, o.dst = some d → st'.temps d = (Sf (i + 1)).temps d) → (∀ r, 2 * r ∉ W i → st'.store r = st.store r) → (∀ r, 2 * r ∈ W i → st'.store r = (Sf (i + 1)).store r) →
        RelF E w0 R0 F0 gh n (frA (FrL ops Sf fun k => listed.getD k true = true) (Sf i).next (Sf (i + 1)).next) st' (a.put o.dst u) w' → wpAny P .any ops Qx fuel (listed.setIfInBounds i true) (a.put o.dst u) w' := by
      intro st' u w' ht1 ht2 hs1 hs2 hr
      refine ih _ st' _ _ (by simp [hsz]) ?_ ?_ ⟨fun k d hk hkl hd => ?_, fun t ht => ?_, fun r => ?_⟩ (hr.of (fun r hr => ?_) rfl rfl)
      · have := filt_lt (p := fun k => !listed.getD k true) (q := fun k => !(listed.setIfInBounds i true).getD k true) (i := i) (fun x hx => ?_) (by simp only [hun]; rfl) (by simp [(hset i).2 (.inl rfl)]) (List.range ops.size) (by simpa using hlt)
        · omega
        · cases hx' : listed.getD x true with
          | false => rfl
          | true => rw [(hset x).2 (.inr hx')] at hx; cases hx
      · intro j o' hj hl e he hb
        rw [hset] at hl ⊢
        right
        rcases hl with rfl | hl
        · rw [ho] at hj
          obtain rfl := Option.some.inj hj
          exact hafter e he hb
        · exact hcl j o' hj hl e he hb
      · rcases (hset k).1 hk with rfl | hk'
        · rw [dstAt_get ho] at hd
          exact ht2 d hd
        · by_cases hod : o.dst = some d
          · have hki : k = i := by
              have hko : ops[k]? = some ops[k] := by simp [hkl]
              rcases (drawOk_dst hok ho hd).1 with h | h
              · exact h
              · exact absurd hod h
            subst hki
            exact ht2 d hod
          · rw [ht1 d hod]; exact hat.tm k d hk' hkl hd
      · have hod : o.dst ≠ some t := by have := ht i ((hset i).2 (.inl rfl)) hlt; rw [dstAt_get ho] at this; exact this
        rw [ht1 t hod]
        exact hat.tn t fun k hk hkl => ht k ((hset k).2 (.inr hk)) hkl
      · by_cases hrw : 2 * r ∈ W i
        · left
          refine ⟨i, hlt, (hset i).2 (.inl rfl), hrw, fun k' hk' hl hrk => ?_, hs2 r hrw⟩
          rcases (hset k').1 hl with h | h
          · omega
          · exact Nat.le_of_lt (wl _ (List.mem_append_right _ hrw) k' hk' h hrk)
        · rw [hs1 r hrw]
          rcases hat.st r with ⟨k, h1, h2, h3, h4, h5⟩ | ⟨h1, h2⟩
          · refine .inl ⟨k, h1, (hset k).2 (.inr h2), h3, fun k' hk' hl hrk => ?_, h5⟩
            rcases (hset k').1 hl with rfl | h
            · exact absurd hrk hrw
            · exact h4 k' hk' h hrk
          · refine .inr ⟨fun k hk hl hrk => ?_, h2⟩
            rcases (hset k).1 hl with rfl | h
            · exact hrw hrk
            · exact h1 k hk h hrk
      · exact ⟨⟨hr.1, fun k hk => hr.2 k ((hset k).2 (.inr hk))⟩, hr.2 i ((hset i).2 (.inl rfl)) hlt⟩
    have hput : ∀ v t, o.dst ≠ some t → st.put o.dst v t = st.temps t := by
      intro v t ht
      cases hd : o.dst with
      | none => rfl
      | some d => exact upd_other _ _ _ (by rintro rfl; exact ht hd)
    have hput2 : ∀ (s : St) v d, o.dst = some d → s.put o.dst v d = v := by
      intro s v d hd
      rw [hd]
      exact upd_same _ _ _
    unfold wpOp
    rw [ho]
    simp only
    obtain ⟨hd, hs⟩ := hstep
    rcases hs with ⟨hg, p, e, h1, h2, h3, h4, h5⟩ | ⟨⟨g, want, d, hg, hgd, hb⟩, h3, h4, h5⟩
    · have hw : Region.wanted o (yielded ops a.tmps) = true := by
        rcases hg with hg | ⟨g, want, d, hg, hgd, hb⟩
        · simp [Region.wanted, hg]
        · rw [← hguard g want d hg hgd] at hb
          simp [Region.wanted, hg, yield_bool hrel hgd hb]
      rw [if_pos hw]
      left
      -- the state with its own window of numbers
      have hrel2 : RelF E w0 R0 F0 gh n (FrL ops Sf fun k => listed.getD k true = true) ⟨st.temps, st.store, (Sf i).next⟩ a w := hrel.of (fun _ h => h) rfl rfl
      have hop : opR call E ⟨st.temps, st.store, (Sf i).next⟩ o.op = some (p, e) := by
        refine opR_local (st := Sf i) rfl (fun x hx' => ?_) (fun r hr => ?_) (fun r hr => ?_) h1
        · rw [hops x hx']; cases x <;> rfl
        · exact (hstore r (List.mem_append_left _ (by rw [h4]; exact hr))).symm
        · exact (hshape r (by rw [h4]; exact hr)).symm
      have hnx : (Sf (i + 1)).next = e.nx := by rw [h3]; rfl
      refine opR_sound hT hS hcall hrel2 hd hop h2 (fun r hr1 hr2 => ?_) fun w' u hr => ?_
      · refine ⟨Nat.le_trans (hx.next_le (Nat.zero_le i) (by omega)) hr1, fun k hk hkl => ?_⟩
        rintro ⟨h6, h7⟩
        have hne : k ≠ i := by rintro rfl; exact hun' hk
        simp only at hr1
        rcases Nat.lt_or_gt_of_ne hne with hki | hki
        · have := hx.next_le (i := k + 1) (j := i) (by omega) (by omega)
          omega
        · have := hx.next_le (i := i + 1) (j := k) (by omega) (by omega)
          omega
      · refine next _ u w' (fun t ht => hput _ t ht) (fun d hd => ?_) (fun r hr => ?_) (fun r hr => ?_) (by rw [hnx]; exact hr)
        · rw [h3]
          simp only [St.app]
          exact (hput2 ⟨st.temps, st.store, (Sf i).next⟩ _ d hd).trans (hput2 (Sf i) _ d hd).symm
        · exact applyStore_not (by rw [h5] at hr; exact fun h => hr (wTok_even.2 h))
        · rw [h3]
          exact applyStore_mem (by rw [h5] at hr; exact wTok_even.1 hr)
    · have hw : Region.wanted o (yielded ops a.tmps) = false := by
        rw [← hguard g want d hg hgd] at hb
        rcases hb with ⟨b, hb, hne⟩ | hb
        · simp [Region.wanted, hg, yield_bool hrel hgd hb, hne]
        · simp [Region.wanted, hg, yield_void hrel hgd hb]
      rw [hw]
      simp only [Bool.false_eq_true, if_false]
      refine next (st.skip o.dst) Go.undef w (fun t ht => hput _ t ht) (fun d hd => ?_) (fun r _ => rfl) (fun r hr => by rw [h5] at hr; simp at hr) ((hrel.skip hd).of (fun r hr => hr.1) rfl rfl)
      rw [h3]
      exact (hput2 st _ d hd).trans (hput2 (Sf i) _ d hd).symm
theorem RelF.drew (h : RelF E w0 R0 F0 gh n Fr st a w) (k : Nat) (hk : w.drawn ≤ k) : RelF E w0 R0 F0 gh n Fr st a { w with drawn := k } := by
  obtain ⟨R, σ, fps, h⟩ := h
  have vm : ∀ pv v f, V w R σ pv v f → V { w with drawn := k } R σ pv v f := fun pv v f hv => V.mono (w := w) (w' := { w with drawn := k }) (fun _ h => h) (Le.refl _) (fun _ _ => rfl) _ _ _ (fun _ _ => rfl) hv
  exact ⟨R, σ, fps, ⟨fun t => vm _ _ _ (h.tm t), fun r x hx => by obtain ⟨k, h1, h2, h3⟩ := h.rt r x hx; exact ⟨k, h1, vm _ _ _ h2, h3⟩, h.nn, h.nd, h.dj, h.fb, h.Rb, h.R0R, h.keep, h.sz, h.tape.trans ⟨rfl, fun _ => hk⟩, h.os, h.out, h.fr, h.gl.mono (w := w) (w' := { w with drawn := k }) (fun _ h => h) (fun _ _ => rfl), h.nt, h.df⟩⟩
theorem draw_sound (hT : TyOk P E.T) (hS : SOk P E.S) (hm : P.follows .mixedOrders = true) (hcall : CallOk P E call) {ops : Array Oper} (hok : drawOk ops = true) {Sf : Nat → St} {T W : Nat → List Nat} (hx : Text call E n ops Sf T W) {Qx : Exit → Act → World → Prop}
    (hQ : ∀ a w, RelX E w0 R0 F0 gh n (Sf ops.size) a w → Qx .normal a w) (h : RelX E w0 R0 F0 gh n (Sf 0) a w) {id : Nat} : (Code.region id ops true).wp P Qx a w := by
  refine wp_region_any hm ?_
  have hno : ∀ k, k < ops.size → ¬ (Array.replicate ops.size false).getD k true = true := fun k hk => by simp [hk]
  refine any_sound hT hS hcall hok hx hQ ops.size _ (Sf 0) a _ (by simp) ?_ ?_ ⟨fun k d hk hkl => absurd hk (hno k hkl), fun _ _ => rfl, fun r => .inr ⟨fun k hk hl => absurd hl (hno k hk), rfl⟩⟩ (RelF.of (h.drew _ (Nat.le_succ _)) (fun r hr => hr.1) rfl rfl)
  · exact Nat.le_trans (List.length_filter_le _ _) (by simp)
  · intro j o hj hl
    exact absurd hl (hno j (Array.getElem?_eq_some_iff.1 hj).1)
end
end Go.Proofs.YtmanllfmgghadaaGreatDoor.PVE
namespace Go.Proofs.YtmanllfmgghadaaGreatDoor.PVE
open PV
section
variable {P : Program} {E : Env} {w0 : World} {R0 : Nat → Prop} {F0 : List Nat} {gh : Nat → Value} {n : Nat} {Fr : Nat → Prop} {R : Nat → Prop} {σ : Nat → Option Hd} {fps : Nat → List Nat} {st : St} {a : Act} {w : World} [Dm]
mutual
theorem V.noR {R' : Nat → Prop} : ∀ (pv : PV) (v : Value) (f : List Nat), pv.noR → V w R σ pv v f → V w R' σ pv v f
  | .undef, _, _, _, h | .void, _, _, _, h | .bool _, _, _, _, h | .int _ _, _, _, _, h | .str _, _, _, _, h | .lit _, _, _, _, h | .nilS, _, _, _, h | .ifc, _, _, _, h | .any, _, _, _, h
  | .own _, _, _, _, h | .addr _ _ _, _, _, _, h | .vw _ _ _, _, _, _, h => by
    simpa only [V] using h
  | .sl es, v, f, hn, h => by
    simp only [PV.noR] at hn
    subst hn
    simp only [V] at h ⊢
    obtain ⟨h1, A, cap, us, sz, h2, h3, h4, h5, h6⟩ := h
    exact ⟨h1, A, cap, us, sz, h2, h3, h4, fun h => by simp at h, by simpa only [Es] using h6⟩
  | .slo sz es, v, f, hn, h => by
    simp only [V] at h ⊢
    obtain ⟨us, fp', h1, h2, h3⟩ := h
    exact ⟨us, fp', h1, Es.noR sz es us fp' hn h2, h3⟩
  | .agg cs, v, f, hn, h => by
    simp only [V] at h ⊢
    obtain ⟨us, h1, h2⟩ := h
    exact ⟨us, h1, Cs.noR cs us f hn h2⟩
  | .pro cs, v, f, hn, h => by simp only [PV.noR] at hn
  | .pto cs, v, f, hn, h => by
    simp only [V] at h ⊢
    obtain ⟨b, us, e, fp', h1, h2, h3, h4⟩ := h
    exact ⟨b, us, e, fp', h1, h2, Cs.noR cs us fp' hn h3, h4⟩
  | .tup cs, v, f, hn, h => by
    simp only [V] at h ⊢
    obtain ⟨us, h1, h2⟩ := h
    exact ⟨us, h1, Ts.noR cs us f hn h2⟩
  | .fn g cs, v, f, hn, h => by
    simp only [V] at h ⊢
    obtain ⟨us, h1, h2, h3⟩ := h
    exact ⟨us, h1, h2, Ts.noR cs us [] hn h3⟩
  | .mp it es, v, f, hn, h => by
    simp only [V] at h ⊢
    obtain ⟨bs, os, fp', h1, h2, h3⟩ := h
    exact ⟨bs, os, fp', h1, Ts.noR es _ fp' hn h2, h3⟩
theorem Cs.noR {R' : Nat → Prop} : ∀ (cs : List PV) (us : List Value) (f : List Nat), PV.noRL cs → Cs w R σ cs us f → Cs w R' σ cs us f
  | [], us, f, hn, h => by simpa only [Cs] using h
  | c :: cs, us, f, hn, h => by
    simp only [Cs] at h ⊢
    obtain ⟨u, us', f1, f2, h0, h1, h2, h3, h4⟩ := h
    exact ⟨u, us', f1, f2, h0, h1, V.noR c u f1 hn.1 h2, Cs.noR cs us' f2 hn.2 h3, h4⟩
theorem Es.noR {R' : Nat → Prop} : ∀ (sz : Nat) (cs : List PV) (us : List Value) (f : List Nat), PV.noRL cs → Es w R σ sz cs us f → Es w R' σ sz cs us f
  | sz, [], us, f, hn, h => by simpa only [Es] using h
  | sz, c :: cs, us, f, hn, h => by
    simp only [Es] at h ⊢
    obtain ⟨v, us', f1, f2, h0, h1, h2, hu, h3, h4, h5⟩ := h
    exact ⟨v, us', f1, f2, h0, h1, h2, hu, V.noR c v f1 hn.1 h3, Es.noR sz cs us' f2 hn.2 h4, h5⟩
theorem Ts.noR {R' : Nat → Prop} : ∀ (cs : List PV) (us : List Value) (f : List Nat), PV.noRL cs → Ts w R σ cs us f → Ts w R' σ cs us f
  | [], us, f, hn, h => by simpa only [Ts] using h
  | c :: cs, us, f, hn, h => by
    simp only [Ts] at h ⊢
    obtain ⟨u, us', f1, f2, h0, h2, h3, h4⟩ := h
    exact ⟨u, us', f1, f2, h0, V.noR c u f1 hn.1 h2, Ts.noR cs us' f2 hn.2 h3, h4⟩
end
theorem exp1_sound (h : Rel w0 R0 F0 gh E.G n Fr R σ fps st a w) {pv pv' : PV} {v : Value} {l : List Nat} (he : exp1 st.store pv = some (pv', l)) (hv : V w R σ pv v []) :
    ∃ f, V w R σ pv' v f ∧ f.Perm (l.flatMap fps) := by
  cases pv with
  | own r =>
    simp only [exp1] at he
    obtain ⟨k, f, hk, hV, hty, hp⟩ := fold_sound h 4 r _ _ he
    simp only [V] at hv
    obtain ⟨_, k', hk', rfl, _⟩ := hv
    obtain rfl : k = k' := by rw [hk] at hk'; exact Option.some.inj hk'
    exact ⟨f, hV, hp⟩
  | addr r i o =>
    cases i with
    | succ i => simp [exp1] at he
    | zero =>
      cases o with
      | succ o => simp [exp1] at he
      | zero =>
        simp only [exp1] at he
        split at he
        case h_2 => cases he
        rename_i cs l' hfo
        simp only [Option.some.injEq, Prod.mk.injEq] at he
        obtain ⟨rfl, rfl⟩ := he
        obtain ⟨k, f, hk, hV, hty, hp⟩ := fold_sound h 4 r _ _ hfo
        simp only [V] at hv
        obtain ⟨_, k', b, hk', hb, rfl⟩ := hv
        obtain rfl : k = k' := by rw [hk] at hk'; exact Option.some.inj hk'
        have hhdr : k.hdr = .pointer (some ⟨b, 0, none⟩) := by
          simp only [V] at hV
          obtain ⟨b', us2, e, fp', h1, _⟩ := hV
          rw [h1] at hb ⊢
          simp [blkOf] at hb
          rw [hb]
        simp only [Nat.zero_mul, Nat.add_zero]
        rw [← hhdr]
        exact ⟨f, hV, hp⟩
  | agg cs =>
    simp only [exp1] at he
    cases hi : inl st.store cs with
    | none => simp [hi] at he
    | some x =>
      simp only [hi, Option.map_some, Option.some.injEq, Prod.mk.injEq] at he
      obtain ⟨rfl, rfl⟩ := he
      obtain ⟨f, h1, h2, _⟩ := inl_cells h (e := .agg cs) hi hv
      simp only [V] at hv
      obtain ⟨us, rfl, hc⟩ := hv
      exact ⟨f, by simp only [V]; exact ⟨us, rfl, by simpa [Value.cells] using h1⟩, h2⟩
  | undef => simp [exp1] at he
  | vw r a b => simp [exp1] at he
  | tup vs => simp [exp1] at he
  | mp it es => simp [exp1] at he
  | _ =>
    simp only [exp1, Option.some.injEq, Prod.mk.injEq] at he
    obtain ⟨rfl, rfl⟩ := he
    exact ⟨[], hv, by simp⟩
theorem expK_sound (h : Rel w0 R0 F0 gh E.G n Fr R σ fps st a w) {pv' res : PV} {l : List Nat} {v : Value} {f g : List Nat} {K : List Nat → List Nat → Prop} (he : ExpK (some (pv', l)) res K) (h1 : V w R σ pv' v f) (h2 : (f ++ g).Perm (l.flatMap fps)) :
    ∃ lo lf f g, K lo lf ∧ V w (addR R (lf.flatMap fps)) σ res v f ∧ (f ++ g).Perm (lo.flatMap fps) := by
  unfold ExpK at he
  rcases he with ⟨he, hK⟩ | ⟨rfl, hK⟩
  · refine ⟨l, [], f, g, hK, V.mono (fun b hb => .inl hb) (Le.refl _) (fun _ _ => rfl) _ _ _ (fun _ _ => rfl) ?_, h2⟩
    rcases he with rfl | ⟨rfl, sz, rfl⟩
    · exact h1
    · simp only [V] at h1
      obtain ⟨rfl, rfl⟩ := h1
      simp only [V, Es]
      refine ⟨[], [], ⟨by simp, .inl ⟨rfl, rfl⟩⟩, ⟨rfl, rfl⟩, by simp [blkOf]⟩
  · exact ⟨[], l, [], [], hK, V.mono (R := addR R f) (fun b hb => by rcases hb with hb | hb; exact .inl hb; exact .inr (h2.mem_iff.1 (List.mem_append_left _ hb))) (Le.refl _) (fun _ _ => rfl) _ _ _ (by simp) (strip_V _ _ _ h1), by simp⟩
theorem run_loadVar' (hT : TyOk P E.T) {t : Nat} {i : TyI} (hi : E.T t = some i) {ad : Addr} {us : List Value} (hl : us.length = i.size) (hc : ∀ j u, us[j]? = some u → w.cell? (ad.add j) = some u) :
    (loadVar t ad).run P w = .ok (if isAggT i then .agg us.toArray else us.headD Go.undef) w := by
  obtain ⟨_, ti, z, g1, g2, g3, g4, g5, g6, g7, g8, g9⟩ := hT t i hi
  have hag := run_isAgg hT hi w
  cases hb : isAggT i with
  | true =>
    rw [hb] at hag
    have hload := run_loadCells_list (P := P) w ad us hc
    rw [hl] at hload
    simp [loadVar, hag, sizeOf, typeInfo, g1, g3, hload]
  | false =>
    rw [hb] at hag
    have h1 : i.size = 1 := by rw [← g5, oneCell_cells (g8 hb)]; rfl
    match us, hl with
    | [u], _ =>
      have := hc 0 u rfl
      have had : ad.add 0 = ad := by simp [Addr.add]
      rw [had] at this
      simp [loadVar, hag, this]
    | [], hl => simp [h1] at hl
    | _ :: _ :: _, hl => simp [h1] at hl
def rvRun (tmps : Array Value) : ResultVar → Sem Value
  | .tmp t => pure (tmps.getD t Go.undef)
  | .cell a t => do loadVar t (← asAddr (tmps.getD a Go.undef))
theorem rv_sound (hT : TyOk P E.T) (h : Rel w0 R0 F0 gh E.G n Fr R σ fps st a w) {rv : ResultVar} {pv' : PV} {l : List Nat} (he : expRV E st rv = some (pv', l)) :
    ∃ v f g, (rvRun a.tmps rv).run P w = .ok v w ∧ V w R σ pv' v f ∧ (f ++ g).Perm (l.flatMap fps) := by
  cases rv with
  | tmp t =>
    simp only [expRV] at he
    obtain ⟨f, h1, h2⟩ := exp1_sound h he (ev_V h (.tmp t))
    exact ⟨_, f, [], rfl, h1, by simpa using h2⟩
  | cell t ty =>
    simp only [expRV] at he
    split at he
    case h_2 => cases he
    rename_i i r hi ht
    split at he
    case h_2 => cases he
    rename_i cs l' hfo
    split at he
    case isFalse => cases he
    rename_i hsz
    simp only [Option.some.injEq, Prod.mk.injEq] at he
    obtain ⟨rfl, rfl⟩ := he
    obtain ⟨k, f, hk, hV, hty, hp⟩ := fold_sound h 4 r _ _ hfo
    have hv := ev_V h (.tmp t)
    rw [ht] at hv
    simp only [V, Act.eval] at hv
    obtain ⟨_, k', b, hk', hb, hval⟩ := hv
    obtain rfl : k = k' := by rw [hk] at hk'; exact Option.some.inj hk'
    simp only [V] at hV
    obtain ⟨b', us, e, fp', h1, h2, h3, rfl⟩ := hV
    rw [h1] at hb
    simp only [blkOf, Option.some.injEq] at hb
    subst hb
    simp only [Nat.zero_mul, Nat.add_zero] at hval
    have hcell : ∀ j u, us[j]? = some u → w.cell? ((⟨b', 0, none⟩ : Addr).add j) = some u := fun j u hu => by
      rw [add_lit', cell_of_row w b' _ us.toArray e (0, 0) h2]
      simpa using hu
    have hrun := run_loadVar' (P := P) hT hi (by rw [h3.length, hsz]) hcell
    refine ⟨if isAggT i = true then Value.agg us.toArray else us.headD Go.undef, fp', [b'], ?_, ?_, (List.perm_append_comm).trans hp⟩
    · simp only [rvRun, hval]
      simp only [asAddr, Sem.run_bind, Sem.run_pure]
      exact hrun
    · obtain ⟨_, ti, z, g1, g2, g3, g4, g5, g6, g7, g8, g9⟩ := hT ty i hi
      cases hb : isAggT i with
      | true => simp only [if_true, V]; exact ⟨us, rfl, h3⟩
      | false =>
        have h1 : i.size = 1 := by rw [← g5, oneCell_cells (g8 hb)]; rfl
        rw [h1] at hsz
        match cs, hsz with
        | [c], _ =>
          simp only [Cs] at h3
          obtain ⟨u, us', f1, f2, rfl, _, h4, ⟨rfl, rfl⟩, rfl⟩ := h3
          simpa using h4
        | [], hl => simp at hl
        | _ :: _ :: _, hl => simp at hl
theorem expL_sound (hT : TyOk P E.T) (h : Rel w0 R0 F0 gh E.G n Fr R σ fps st a w) : ∀ (ts : List ResultVar) (ps : List PV) (K : List Nat → List Nat → Prop), ExpL E st ts ps K →
    ∃ lo lf f g vs, K lo lf ∧ (List.mapM (rvRun a.tmps) ts).run P w = .ok vs w ∧ Ts w (addR R (lf.flatMap fps)) σ ps vs f ∧ (f ++ g).Perm (lo.flatMap fps)
  | [], [], K, he => ⟨[], [], [], [], [], he, by simp, by simp [Ts], by simp⟩
  | t :: ts, p :: ps, K, he => by
    simp only [ExpL] at he
    obtain ⟨v, l1, f1, q1, g1, hv, k1, k2, k3⟩ : ∃ v l1 f1 q1 g1, (rvRun a.tmps t).run P w = .ok v w ∧ (ExpL E st ts ps fun l' f' => K (l1 ++ l') (f1 ++ f')) ∧ V w (addR R (f1.flatMap fps)) σ p v q1 ∧ (q1 ++ g1).Perm (l1.flatMap fps) := by
      rcases he with he | he
      · cases hx : expRV E st t with
        | none => rw [hx] at he; exact he.elim
        | some x =>
          obtain ⟨pv', l0⟩ := x
          rw [hx] at he
          obtain ⟨v, f0, g0, hv, h1, h2⟩ := rv_sound (P := P) hT h hx
          obtain ⟨l1, f1, q1, g1, k1, k2, k3⟩ := expK_sound h he h1 h2
          exact ⟨v, l1, f1, q1, g1, hv, k1, k2, k3⟩
      · unfold ExpZ at he
        split at he
        · exact he.elim
        rename_i v0 l0 hx
        obtain ⟨rfl, hk⟩ := he
        cases t with
        | cell a b => simp [expVW] at hx
        | tmp t =>
          simp only [expVW] at hx
          split at hx
          case h_2 => cases hx
          rename_i r x0 y0 hev
          have hvv := ev_V h (.tmp t)
          rw [hev] at hvv
          exact ⟨_, [], l0, [], [], rfl, hk, roLeaf_sound h hx hvv, by simp⟩
    · obtain ⟨l2, f2, q2, g2, vs, h4, h5, h6, h7⟩ := expL_sound hT h ts ps _ k1
      refine ⟨l1 ++ l2, f1 ++ f2, q1 ++ q2, g1 ++ g2, v :: vs, h4, ?_, ?_, ?_⟩
      · simp only [List.mapM_cons, Sem.run_bind, hv, Sem.run_pure, Result.andThen, h5]
      · simp only [Ts]
        refine ⟨_, _, q1, q2, rfl, V.mono (fun b hb => ?_) (Le.refl _) (fun _ _ => rfl) _ _ _ (fun _ _ => rfl) k2, Ts.mono (fun b hb => ?_) (Le.refl _) (fun _ _ => rfl) _ _ _ (fun _ _ => rfl) h6, rfl⟩
        · rcases hb with hb | hb
          · exact .inl hb
          · exact .inr (by rw [List.flatMap_append]; simp [hb])
        · rcases hb with hb | hb
          · exact .inl hb
          · exact .inr (by rw [List.flatMap_append]; simp [hb])
      · rw [List.flatMap_append]
        refine List.Perm.trans ?_ (k3.append h7)
        rw [List.append_assoc, List.append_assoc]
        refine List.Perm.append_left _ ?_
        rw [← List.append_assoc, ← List.append_assoc]
        exact List.perm_append_comm.append_right _
  | [], _ :: _, _, he => by simp [ExpL] at he
  | _ :: _, [], _, he => by simp [ExpL] at he
def resOf : List Value → Value
  | [v] => v
  | vs => .tuple vs.toArray
theorem results_run {fn : Func} {ts : List ResultVar} {tmps : Array Value} {w' : World} {vs : List Value} (h : fn.results = ts.toArray) (hr : (List.mapM (rvRun tmps) ts).run P w = .ok vs w') :
    (results fn tmps).run P w = .ok (resOf vs) w' := by
  have hF : ∀ F : ResultVar → Sem Value, (∀ rv, F rv = rvRun tmps rv) → List.mapM F ts = List.mapM (rvRun tmps) ts := fun F hF => by rw [show F = rvRun tmps from funext hF]
  unfold results
  rw [h, List.mapM_toArray, hF _ (fun rv => by cases rv <;> rfl)]
  simp only [Sem.run_bind, Sem.run_map, hr]
  rcases vs with _ | ⟨v, _ | ⟨u, vs⟩⟩ <;> simp [resOf, Result.andThen]
theorem Ts.size {us : List Value} : ∀ {cs : List PV} {us : List Value} {f : List Nat}, Ts w R σ cs us f → us.length = cs.length
  | [], us, f, h => by simp only [Ts] at h; simp [h.1]
  | c :: cs, us, f, h => by
    simp only [Ts] at h
    obtain ⟨u, us', f1, f2, rfl, _, h2, _⟩ := h
    simp [Ts.size (us := us') h2]
theorem impL_len : ∀ (args : List PV) (b : Nat), (impL args b).1.length = args.length
  | [], _ => rfl
  | c :: cs, b => by simp [impL, impL_len cs]
theorem backL_sound (h : Rel w0 R0 F0 gh E.G n Fr R σ fps st a w) : ∀ (i : Nat) (bks : List (Option PV)) (vs : List Value) (K : List Nat → Prop), BackL st i bks K → bks.length = vs.length → (∀ j v, vs[j]? = some v → gh (i + j) = v) →
    ∃ lb fb, K lb ∧ fb.Perm (lb.flatMap fps) ∧ (∀ Rv : Nat → Prop, ((∀ b, R b → Rv b) ∨ noRB bks) → Bs w Rv vs bks fb)
  | i, [], vs, K, hb, hl, hg => by
    have : vs = [] := List.length_eq_zero_iff.1 hl.symm
    subst this
    exact ⟨[], [], hb, by simp, fun _ _ => by simp [Bs]⟩
  | i, none :: bks, vs, K, hb, hl, hg => by
    cases vs with
    | nil => simp at hl
    | cons v vs =>
      obtain ⟨lb, fb, h1, h2, h3⟩ := backL_sound h (i + 1) bks vs K hb (by simpa using hl) (fun j v hj => by rw [Nat.add_assoc, Nat.add_comm 1 j]; exact hg (j + 1) v (by simpa using hj))
      exact ⟨lb, fb, h1, h2, fun Rv hR => by simp only [Bs]; exact h3 Rv hR⟩
  | i, some p :: bks, vs, K, hb, hl, hg => by
    cases vs with
    | nil => simp at hl
    | cons v vs =>
      simp only [BackL] at hb
      split at hb
      case h_2 => exact hb.elim
      rename_i pv' l he
      obtain ⟨⟨rfl, hf⟩, hb⟩ := hb
      have htm := h.tm (gBase + i)
      have hv : tmv gh a (gBase + i) = v := by
        unfold tmv
        rw [if_neg (by omega)]
        have := hg 0 v rfl
        simpa using this
      rw [hv] at htm
      obtain ⟨f, h4, h5⟩ := exp1_sound h he htm
      obtain ⟨lb, fb, h1, h2, h3⟩ := backL_sound h (i + 1) bks vs _ hb (by simpa using hl) (fun j v hj => by rw [Nat.add_assoc, Nat.add_comm 1 j]; exact hg (j + 1) v (by simpa using hj))
      refine ⟨l ++ lb, f ++ fb, h1, by rw [List.flatMap_append]; exact h5.append h2, fun Rv hR => ?_⟩
      simp only [Bs]
      refine ⟨f, fb, ?_, h3 Rv (hR.imp id fun h => h.2), rfl⟩
      have h6 := V.free (σ' := fun _ => none) _ _ _ hf h4
      rcases hR with hR | hR
      · exact V.mono hR (Le.refl _) (fun _ _ => rfl) _ _ _ (fun _ _ => rfl) h6
      · exact V.noR _ _ _ hR.1 h6
theorem expAll_expL {s : St} : ∀ (ts : List ResultVar) (ns : List Nat) (ps : List PV) (l : List Nat) (K : List Nat → List Nat → Prop), expAll E s ts ns = some (ps, l) → K l [] → ExpL E s ts ps K
  | [], ns, ps, l, K, he, hK => by
    simp only [expAll, Option.some.injEq, Prod.mk.injEq] at he
    obtain ⟨rfl, rfl⟩ := he
    simpa only [ExpL] using hK
  | t :: ts, ns, ps, l, K, he, hK => by
    simp only [expAll] at he
    split at he
    case h_2 => cases he
    rename_i pv l1 pvs l2 h1 h2
    simp only [Option.some.injEq, Prod.mk.injEq] at he
    obtain ⟨rfl, rfl⟩ := he
    simp only [ExpL, h1, ExpK]
    refine .inl (.inl ⟨?_, ?_⟩)
    · cases pv <;> first | exact .inl rfl | exact .inr ⟨rfl, _, rfl⟩
    · exact expAll_expL ts ns.tail pvs l2 _ h2 (by simpa using hK)
theorem expAll_frz {s : St} : ∀ (ts : List ResultVar) (ps : List PV) (l : List Nat) (K : List Nat → List Nat → Prop), frzAll E s ts = some (ps, l) → K [] l → ExpL E s ts ps K
  | [], ps, l, K, he, hK => by
    simp only [frzAll, Option.some.injEq, Prod.mk.injEq] at he
    obtain ⟨rfl, rfl⟩ := he
    simpa only [ExpL] using hK
  | t :: ts, ps, l, K, he, hK => by
    simp only [frzAll] at he
    split at he
    case h_2 => cases he
    rename_i pv l1 pvs l2 h1 h2
    simp only [Option.some.injEq, Prod.mk.injEq] at he
    obtain ⟨rfl, rfl⟩ := he
    have ih := expAll_frz ts pvs l2 (fun l' f' => K ([] ++ l') (l1 ++ f')) h2 (by simpa using hK)
    simp only [ExpL]
    unfold frz1 at h1
    split at h1
    · rename_i x hx
      obtain rfl := Option.some.inj h1
      refine .inr ?_
      rw [hx]
      exact ⟨rfl, ih⟩
    · cases hx : expRV E s t with
      | none => rw [hx] at h1; cases h1
      | some x =>
        rw [hx] at h1
        simp only [Option.map_some, Option.some.injEq, Prod.mk.injEq] at h1
        obtain ⟨rfl, rfl⟩ := h1
        exact .inl (.inr ⟨rfl, ih⟩)
theorem frzAll_len {s : St} : ∀ (ts : List ResultVar) (ps : List PV) (l : List Nat), frzAll E s ts = some (ps, l) → ps.length = ts.length
  | [], ps, l, he => by
    simp only [frzAll, Option.some.injEq, Prod.mk.injEq] at he
    obtain ⟨rfl, rfl⟩ := he
    rfl
  | t :: ts, ps, l, he => by
    simp only [frzAll] at he
    split at he
    case h_2 => cases he
    rename_i pv l1 pvs l2 h1 h2
    simp only [Option.some.injEq, Prod.mk.injEq] at he
    obtain ⟨rfl, rfl⟩ := he
    simp [frzAll_len ts pvs l2 h2]
theorem backAll_backL {s : St} : ∀ (ms : List Nat) (i : Nat) (bs : List (Option PV)) (l : List Nat) (K : List Nat → Prop), backAll s i ms = some (bs, l) → freeB bs → K l → BackL s i bs K ∧ bs.length = ms.length
  | [], i, bs, l, K, he, hf, hK => by
    simp only [backAll, Option.some.injEq, Prod.mk.injEq] at he
    obtain ⟨rfl, rfl⟩ := he
    exact ⟨by simpa only [BackL] using hK, rfl⟩
  | m :: ms, i, bs, l, K, he, hf, hK => by
    simp only [backAll] at he
    split at he
    · cases he
    rename_i bs1 l1 h1
    split at he
    · split at he
      · rename_i p l2 h2
        simp only [Option.some.injEq, Prod.mk.injEq] at he
        obtain ⟨rfl, rfl⟩ := he
        simp only [freeB] at hf
        obtain ⟨h3, h4⟩ := backAll_backL ms (i + 1) bs1 l1 (fun l' => K (l2 ++ l')) h1 hf.2 hK
        simp only [BackL, h2]
        exact ⟨⟨⟨by trivial, hf.1⟩, h3⟩, by simp [h4]⟩
      · cases he
    · simp only [Option.some.injEq, Prod.mk.injEq] at he
      obtain ⟨rfl, rfl⟩ := he
      simp only [freeB] at hf
      obtain ⟨h3, h4⟩ := backAll_backL ms (i + 1) bs1 _ K h1 hf hK
      simp only [BackL]
      exact ⟨h3, by simp [h4]⟩
theorem expAll_len {s : St} : ∀ (ts : List ResultVar) (ns : List Nat) (ps : List PV) (l : List Nat), expAll E s ts ns = some (ps, l) → ps.length = ts.length
  | [], ns, ps, l, he => by
    simp only [expAll, Option.some.injEq, Prod.mk.injEq] at he
    obtain ⟨rfl, rfl⟩ := he
    rfl
  | t :: ts, ns, ps, l, he => by
    simp only [expAll] at he
    split at he
    case h_2 => cases he
    rename_i pv l1 pvs l2 h1 h2
    simp only [Option.some.injEq, Prod.mk.injEq] at he
    obtain ⟨rfl, rfl⟩ := he
    simp [expAll_len ts ns.tail pvs l2 h2]
theorem mkRes_free {ts : List ResultVar} {ps : List PV} (hl : ps.length = ts.length) (h : PV.freeL ps) : (mkRes ts ps).free := by
  rcases ts with _ | ⟨t, _ | ⟨u, ts⟩⟩
  · exact h
  · match ps, hl with
    | [p], _ => exact h.1
  · exact h
theorem mkRes_noR {ts : List ResultVar} {ps : List PV} (hl : ps.length = ts.length) (h : PV.noRL ps) : (mkRes ts ps).noR := by
  rcases ts with _ | ⟨t, _ | ⟨u, ts⟩⟩
  · exact h
  · match ps, hl with
    | [p], _ => exact h.1
  · exact h
theorem fin_of {ts : List ResultVar} {ps : List PV} {bks : List (Option PV)} {al : Bool} {s : St} (hl : ps.length = ts.length) (h : ExpL E s ts ps fun lo lf => BackL s 0 bks fun lb => (lo ++ lb).Nodup ∧ ∀ r ∈ lf, r ∉ lo ++ lb) (hf : PV.freeL ps) (hn : al = false → PV.noRL ps ∧ noRB bks) : Fin E ts (mkRes ts ps) bks al s := by
  refine ⟨⟨ps, ?_, h⟩, mkRes_free hl hf, fun ha => ⟨mkRes_noR hl (hn ha).1, (hn ha).2⟩⟩
  rcases ts with _ | ⟨t, _ | ⟨u, ts⟩⟩
  · rfl
  · match ps, hl with
    | [p], _ => rfl
  · rfl
theorem finR_fin {F : Fx} {s : St} {p : Prop} {ans : Ans} (he : finR E F s = some (p, ans)) (hp : p) : Fin E F.ts ans.res ans.bks F.cm.al s ∧ ans.bks.length = F.cm.modes.length := by
  unfold finR at he
  split at he
  · split at he
    case h_2 => cases he
    rename_i ps l bks lb h1 h2
    simp only [Option.some.injEq, Prod.mk.injEq] at he
    obtain ⟨rfl, rfl⟩ := he
    obtain ⟨q1, q2, q3, q4, q5⟩ := hp
    obtain ⟨b1, b2⟩ := backAll_backL _ _ _ _ (fun lb => ([] ++ lb).Nodup ∧ ∀ r ∈ l, r ∉ [] ++ lb) h2 q3 ⟨by simpa using q1, by simpa using q2⟩
    exact ⟨fin_of (frzAll_len _ _ _ h1) (expAll_frz _ _ _ _ h1 b1) q4 q5, b2⟩
  · split at he
    case h_2 => cases he
    rename_i ps l bks lb h1 h2
    have hlen := expAll_len _ _ _ _ h1
    simp only [Option.some.injEq, Prod.mk.injEq] at he
    obtain ⟨rfl, rfl⟩ := he
    obtain ⟨q1, q3, q4, q5⟩ := hp
    obtain ⟨b1, b2⟩ := backAll_backL _ _ _ _ (fun lb => (l ++ lb).Nodup ∧ ∀ r ∈ ([] : List Nat), r ∉ l ++ lb) h2 q3 ⟨q1, by simp⟩
    exact ⟨fin_of hlen (expAll_expL _ _ _ _ _ h1 b1) q4 q5, b2⟩
end
end Go.Proofs.YtmanllfmgghadaaGreatDoor.PVE
