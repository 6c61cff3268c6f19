/- Draws. -/
import Derived.Test.YtmanllfmgghadaaGreatDoorT3
set_option linter.unusedVariables false
set_option linter.unusedSimpArgs false
set_option maxRecDepth 100000
namespace Go.Proofs.YtmanllfmgghadaaGreatDoor.PVE
open PV Query
@[go_sem] theorem bytePV_ty (b : UInt8) : bytePV b = .int .u8 b.toNat := rfl
@[go_sem] theorem strsOf_nil : strsOf [] = [] := id rfl
@[go_sem] theorem strsOf_cons {s : Str} {l : List PV} : strsOf (.str s :: l) = s :: strsOf l := id rfl
@[go_sem] theorem strsAll_nil : strsAll [] = true := id rfl
@[go_sem] theorem strsAll_cons {s : Str} {l : List PV} : strsAll (.str s :: l) = strsAll l := id rfl
def intsOf : List PV → List Int
  | [] => []
  | .int .i64 s :: l => s :: intsOf l
  | _ :: l => intsOf l
def intsAll : List PV → Bool
  | [] => true
  | .int .i64 _ :: l => intsAll l
  | _ => false
@[go_sem] theorem intsOf_nil : intsOf [] = [] := id rfl
@[go_sem] theorem intsOf_cons {s : Int} {l : List PV} : intsOf (.int .i64 s :: l) = s :: intsOf l := id rfl
@[go_sem] theorem intsAll_nil : intsAll [] = true := id rfl
@[go_sem] theorem intsAll_cons {s : Int} {l : List PV} : intsAll (.int .i64 s :: l) = intsAll l := id rfl
theorem more {p : Nat} (h : p + 20 ≤ 1099511627776) : p ≤ 1099511627776 ∧ p + 1 ≤ 1099511627776 ∧ p + 1 + 1 ≤ 1099511627776 ∧ p + 1 + 1 + 1 ≤ 1099511627776 ∧ p + 1 + 1 + 1 + 1 ≤ 1099511627776 ∧ p + 1 + 1 + 1 + 1 + 1 ≤ 1099511627776 := by omega
theorem ex_if {α : Type} {c : Prop} {A B P : α → Prop} : (∃ r, ((c → A r) ∧ (¬c → B r)) ∧ P r) = ((c → ∃ r, A r ∧ P r) ∧ (¬c → ∃ r, B r ∧ P r)) := by
  by_cases h : c <;> simp [h]
theorem ex_bool {α : Type} {c : Bool} {A B P : α → Prop} : (∃ r, ((c = true → A r) ∧ (c = false → B r)) ∧ P r) = ((c = true → ∃ r, A r ∧ P r) ∧ (c = false → ∃ r, B r ∧ P r)) := by
  cases c <;> simp
theorem ex_and {α : Type} {c : Prop} {A P : α → Prop} : (∃ r, (c ∧ A r) ∧ P r) = (c ∧ ∃ r, A r ∧ P r) := by
  by_cases h : c <;> simp [h]
theorem ex_eq {α : Type} {a : α} {P : α → Prop} : (∃ r, a = r ∧ P r) = P a := by simp
theorem ends_wx {S : Sys} {F : Fx} {c : Code} {ks : List Fr} {P : Ans → Prop} {σ : Type} (μ : σ → Nat) (X : σ → St) (I : σ → Prop) (s0 : σ) (h0 : I s0)
    (hs : ∀ s, I s → (∀ s', μ s' < μ s → I s' → ∃ r, Ends S F (.head c (X s') ks) r ∧ P r) → ∃ r, Ends S F (.run c (X s) (.loop c :: ks)) r ∧ P r) : ∃ r, Ends S F (.head c (X s0) ks) r ∧ P r := by
  have key : ∀ d s, μ s = d → I s → ∃ r, Ends S F (.head c (X s) ks) r ∧ P r := by
    intro d
    induction d using Nat.strongRecOn with
    | _ d ih =>
      intro s hd hI
      simp only [go_head]
      exact hs s hI fun s' hlt hI' => ih (μ s') (by omega) s' rfl hI'
  exact key _ s0 rfl h0
@[go_sem] theorem Query.snoc (l : List Query) (a lo hi : Int) (b c : Str) (m : List Query) : l.map pvo ++ [.agg [.int .i64 a, .str b, .str c, .int .i64 lo, .int .i64 hi, .slo 6 (m.map pvo)]] = (l ++ [Query.mk a b c lo hi m]).map pvo := by simp [pvo_eq, Query.kind, Query.field, Query.text, Query.low, Query.high, Query.parts]
theorem Query.eta (q : Query) : Query.mk q.kind q.field q.text q.low q.high q.parts = q := by cases q; rfl
@[go_sem] theorem Field.re (f : Field) (off : Nat) (cs : List PV) : f.pv.reElem off cs = .agg (PV.putCells [.str f.name, .int .i64 f.kind, .int .i64 f.weight] off cs) := rfl
@[go_sem] theorem Field.setf (l : List Field) (i : Nat) (a : Str) (b c : Int) : (l.map Field.pv).set i (.agg [.str a, .int .i64 b, .int .i64 c]) = (l.set i (Field.mk a b c)).map Field.pv := by rw [List.map_set]; rfl
@[go_sem] theorem Query.reo (q : Query) (off : Nat) (cs : List PV) : q.pvo.reElem off cs = .agg (PV.putCells [.int .i64 q.kind, .str q.field, .str q.text, .int .i64 q.low, .int .i64 q.high, .slo 6 (q.parts.map pvo)] off cs) := by rw [pvo_eq]; rfl
@[go_sem] theorem Query.setp (l : List Query) (i : Nat) (a lo hi : Int) (b c : Str) (m : List Query) : (l.map pvo).set i (.agg [.int .i64 a, .str b, .str c, .int .i64 lo, .int .i64 hi, .slo 6 (m.map pvo)]) = (l.set i (Query.mk a b c lo hi m)).map pvo := by rw [List.map_set, pvo_eq]; rfl
@[go_sem] theorem set_get {α : Type} (l : List α) (i : Nat) (a : α) (h : i < l.length) : (l.set i a)[i]? = some a := List.getElem?_set_self h
attribute [go_sem] Query.eta
end Go.Proofs.YtmanllfmgghadaaGreatDoor.PVE
