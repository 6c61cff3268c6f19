/- Terms of a text and of a question. -/
import Derived.Test.YtmanllfmgghadaaGreatDoorT8
set_option linter.unusedVariables false
set_option linter.unusedSimpArgs false
set_option maxRecDepth 100000
namespace Go.Proofs.YtmanllfmgghadaaGreatDoor.PVE
open PV Query
@[go_sem] theorem vals_slice {E : Env} {st : St} {t : Nat} {x : Operand} {lo hi mx : Option Operand} : valsOf E st (.slice t x lo hi mx) = ev E st x :: (lo.toList ++ hi.toList ++ mx.toList).map (ev E st) := by
  cases lo <;> cases hi <;> cases mx <;> simp [valsOf, Go.Op.operands]
attribute [go_sem] Option.toList_some Option.toList_none
def uniq (l : List Str) : List Str := Lib.compact (l.mergeSort leStr)
def terms (s : Str) : List Str := (words s).map fun w => stem w.text
def addS : List Str → Str → List Str
  | [], t => [t]
  | x :: l, t => if Go.Op.bytesLess x t = true then x :: addS l t else if x = t then x :: l else t :: x :: l
mutual
def termsI : Query → List Str → List Str | .mk k _ t _ _ p, out => if k = 2 ∨ k = 3 then out ++ (terms t).filter (· ≠ []) else if k = 7 ∨ k = 8 then termsIL p out else out
def termsIL : List Query → List Str → List Str
  | [], out => out
  | q :: l, out => termsIL l (termsI q out)
end
def tnz (s : Str) : List Str := (terms s).filter (· ≠ [])
mutual
def termsS : Query → List Str → List Str | .mk k _ t _ _ p, out => if k = 9 then out else termsSL p (if k = 2 ∨ k = 3 then (tnz t).foldl addS out else out)
def termsSL : List Query → List Str → List Str
  | [], out => out
  | q :: l, out => termsSL l (termsS q out)
end
end Go.Proofs.YtmanllfmgghadaaGreatDoor.PVE
