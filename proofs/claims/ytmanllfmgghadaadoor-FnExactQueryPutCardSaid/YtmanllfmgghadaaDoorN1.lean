/- Numbers in decimals: what is read is what is written. -/
import Derived.Test.YtmanllfmgghadaaDoorEG
import Derived.Lib.ItoaNum
import Derived.Lib.AtoiAll
set_option linter.unusedVariables false
set_option linter.unusedSimpArgs false
set_option maxRecDepth 100000
namespace Go.Proofs.YtmanllfmgghadaaDoor.PVE
open PV
def digC (u : Nat) : UInt8 := UInt8.ofNat (48 + u)
theorem digC_nat {u : Nat} (h : u < 10) : (digC u).toNat = 48 + u := by
  unfold digC
  rw [UInt8.toNat_ofNat_of_lt' (by show _ < 256; omega)]
theorem decD_small {u : Nat} (h : u < 10) : Lib.decDigits u = [digC u] := by
  rw [Lib.decDigits, dif_pos h]; rfl
theorem decD_big {u : Nat} (h : ¬ u < 10) : Lib.decDigits u = Lib.decDigits (u / 10) ++ [digC (u % 10)] := by
  rw [Lib.decDigits, dif_neg h]; rfl
theorem decD_len : ∀ (k u : Nat), u < 10 ^ (k + 1) → (Lib.decDigits u).length ≤ k + 1
  | 0, u, h => by rw [decD_small (by simpa using h)]; simp
  | k + 1, u, h => by
    by_cases h2 : u < 10
    · rw [decD_small h2]; simp
    · rw [decD_big h2, List.length_append]
      have := decD_len k (u / 10) (by rw [Nat.pow_succ] at h; omega)
      simp; omega
def numI (s : (List UInt8)) : Int × Bool := match Lib.atoiAll s with
  | .ok v => if -999999999 ≤ v ∧ v ≤ 999999999 ∧ Lib.itoa v = s then (v, true) else (0, false)
  | _ => (0, false)
end Go.Proofs.YtmanllfmgghadaaDoor.PVE
