/- slices.SortFunc at hits: what it answers, over pure values. -/
import Derived.Test.YtgnggcpcijcahaaGreatDoorL4
set_option linter.unusedVariables false
set_option linter.unusedSimpArgs false
namespace Go.Proofs.YtgnggcpcijcahaaGreatDoor.PVE
open PV
def hitLt (a b : Int × List UInt8) : Bool := decide (b.1 < a.1) || (decide (a.1 = b.1) && Op.bytesLess a.2 b.2)
def hitKey : PV → Int × List UInt8
  | .agg (.int _ _ :: .str k :: .int _ s :: _) => (s, k)
  | _ => (0, [])
def IsHit (e : PV) : Prop := ∃ d k s, e = .agg [.int .i64 d, .str k, .int .i64 s]
open Classical in
noncomputable def libSortH : List PV → Option Ans
  | [.slo 3 es, .fn g []] => if g = 67 ∧ (∀ e ∈ es, IsHit e) ∧ (es.Pairwise fun a b => hitKey a ≠ hitKey b) ∧ es.length ≤ 1099511627776 then some ⟨[some (.slo 3 (sortBy hitLt hitKey es)), none], .tup []⟩ else none
  | _ => none
end Go.Proofs.YtgnggcpcijcahaaGreatDoor.PVE
