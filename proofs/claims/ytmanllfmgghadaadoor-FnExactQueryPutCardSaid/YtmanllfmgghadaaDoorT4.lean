/- Draws. -/
import Derived.Test.YtmanllfmgghadaaDoorT3
set_option linter.unusedVariables false
set_option linter.unusedSimpArgs false
set_option maxRecDepth 100000
namespace Go.Proofs.YtmanllfmgghadaaDoor.PVE
open PV Query
@[go_sem] theorem bytePV_ty (b : UInt8) : bytePV b = .int .u8 b.toNat := rfl
@[go_sem] theorem strsOf_nil : strsOf [] = [] := id rfl
@[go_sem] theorem strsOf_cons {s : Str} {l : List PV} : strsOf (.str s :: l) = s :: strsOf l := id rfl
@[go_sem] theorem strsAll_nil : strsAll [] = true := id rfl
@[go_sem] theorem strsAll_cons {s : Str} {l : List PV} : strsAll (.str s :: l) = strsAll l := id rfl
def intsOf : List PV → List Int
  | [] => []
  | .int .i64 s :: l => s :: intsOf l
  | _ :: l => intsOf l
def intsAll : List PV → Bool
  | [] => true
  | .int .i64 _ :: l => intsAll l
  | _ => false
@[go_sem] theorem intsOf_nil : intsOf [] = [] := id rfl
@[go_sem] theorem intsOf_cons {s : Int} {l : List PV} : intsOf (.int .i64 s :: l) = s :: intsOf l := id rfl
@[go_sem] theorem intsAll_nil : intsAll [] = true := id rfl
@[go_sem] theorem intsAll_cons {s : Int} {l : List PV} : intsAll (.int .i64 s :: l) = intsAll l := id rfl
theorem more {p : Nat} (h : p + 20 ≤ 1099511627776) : p ≤ 1099511627776 ∧ p + 1 ≤ 1099511627776 ∧ p + 1 + 1 ≤ 1099511627776 ∧ p + 1 + 1 + 1 ≤ 1099511627776 ∧ p + 1 + 1 + 1 + 1 ≤ 1099511627776 ∧ p + 1 + 1 + 1 + 1 + 1 ≤ 1099511627776 := by omega
@[go_sem] theorem Query.snoc (l : List Query) (a lo hi : Int) (b c : Str) (m : List Query) : l.map pvo ++ [.agg [.int .i64 a, .str b, .str c, .int .i64 lo, .int .i64 hi, .slo 6 (m.map pvo)]] = (l ++ [Query.mk a b c lo hi m]).map pvo := by simp [pvo_eq, Query.kind, Query.field, Query.text, Query.low, Query.high, Query.parts]
theorem Query.eta (q : Query) : Query.mk q.kind q.field q.text q.low q.high q.parts = q := by cases q; rfl
@[go_sem] theorem Field.re (f : Field) (off : Nat) (cs : List PV) : f.pv.reElem off cs = .agg (PV.putCells [.str f.name, .int .i64 f.kind, .int .i64 f.weight] off cs) := rfl
@[go_sem] theorem Field.setf (l : List Field) (i : Nat) (a : Str) (b c : Int) : (l.map Field.pv).set i (.agg [.str a, .int .i64 b, .int .i64 c]) = (l.set i (Field.mk a b c)).map Field.pv := by rw [List.map_set]; rfl
@[go_sem] theorem Query.reo (q : Query) (off : Nat) (cs : List PV) : q.pvo.reElem off cs = .agg (PV.putCells [.int .i64 q.kind, .str q.field, .str q.text, .int .i64 q.low, .int .i64 q.high, .slo 6 (q.parts.map pvo)] off cs) := by rw [pvo_eq]; rfl
@[go_sem] theorem Query.setp (l : List Query) (i : Nat) (a lo hi : Int) (b c : Str) (m : List Query) : (l.map pvo).set i (.agg [.int .i64 a, .str b, .str c, .int .i64 lo, .int .i64 hi, .slo 6 (m.map pvo)]) = (l.set i (Query.mk a b c lo hi m)).map pvo := by rw [List.map_set, pvo_eq]; rfl
@[go_sem] theorem set_get {α : Type} (l : List α) (i : Nat) (a : α) (h : i < l.length) : (l.set i a)[i]? = some a := List.getElem?_set_self h
attribute [go_sem] Query.eta
end Go.Proofs.YtmanllfmgghadaaDoor.PVE
