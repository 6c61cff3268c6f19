/- slices.SortFunc at hits: what it answers, over pure values. -/
import Derived.Test.YtgnggcpcijcahaaGreatDoorL4
set_option linter.unusedVariables false
set_option linter.unusedSimpArgs false
namespace Go.Proofs.YtgnggcpcijcahaaGreatDoor.PVE
open PV
def hitLt (a b : Int × List UInt8) : Bool := decide (b.1 < a.1) || (decide (a.1 = b.1) && Op.bytesLess a.2 b.2)
def sgk (down : Bool) (p : Int × List UInt8) : Int × List UInt8 := (if down = true then p.1 else -p.1, p.2)
def ltD (down : Bool) (a b : Int × List UInt8) : Bool := hitLt (sgk down a) (sgk down b)
def ltK (a b : Int × List UInt8) : Bool := Op.bytesLess a.2 b.2
def hitKey : PV → Int × List UInt8
  | .agg (.int _ _ :: .str k :: .int _ s :: _) => (s, k)
  | _ => (0, [])
def IsHit (e : PV) : Prop := ∃ d k s, e = .agg [.int .i64 d, .str k, .int .i64 s]
open Classical in
noncomputable def libSortB : List PV → Option Ans
  | [.slo 3 es, .fn g [.pro [.bool down]]] => if g = 74 ∧ (∀ e ∈ es, IsHit e) ∧ (es.Pairwise fun a b => hitKey a ≠ hitKey b) ∧ es.length ≤ 1099511627776 then some ⟨[some (.slo 3 (sortBy (ltD down) hitKey es)), none], .tup []⟩ else none
  | [.slo 3 es, .fn g []] => if g = 75 ∧ (∀ e ∈ es, IsHit e) ∧ (es.Pairwise fun a b => (hitKey a).2 ≠ (hitKey b).2) ∧ es.length ≤ 1099511627776 then some ⟨[some (.slo 3 (sortBy ltK hitKey es)), none], .tup []⟩ else none
  | _ => none
end Go.Proofs.YtgnggcpcijcahaaGreatDoor.PVE
