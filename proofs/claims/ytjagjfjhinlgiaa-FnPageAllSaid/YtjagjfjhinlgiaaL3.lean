/- impl.number: a number is read as what its figures are. -/
import Derived.Test.YtjagjfjhinlgiaaL2
import Derived.Test.YtjagjfjhinlgiaaN1
import Derived.Lib.AtoiBound
import Derived.WalkKit
import Derived.BigCall
set_option linter.unusedVariables false
set_option linter.unusedSimpArgs false
set_option linter.unusedSectionVars false
namespace Go.Proofs.Ytjagjfjhinlgiaa.PVE
open PV
open Go.RowKit Go.Lib
theorem bytesW_below (w : World) (t : ByteArray) : Below w.heap.size w (Lib.bytesWorld w 5 t) := Lib.bytesWorld_below _ _ _
set_option maxRecDepth 100000 in
set_option maxHeartbeats 1000000 in
theorem within_C (n lo hi : Int) (w : World) : Calls Try.prog 13 #[.int .i64 n, .int .i64 lo, .int .i64 hi] w fun e w' => e = .returned (.bool (decide (lo ≤ n) && decide (n ≤ hi))) ∧ w' = w := by
  by_cases h1 : lo ≤ n
  · by_cases h2 : n ≤ hi
    · go_enter Try.func13, Try.ntmps13
      go_wp2
      go_ret
      simp [h1, h2]
    · go_enter Try.func13, Try.ntmps13
      go_wp2
      go_ret
      simp [h1, h2]
  · go_enter Try.func13, Try.ntmps13
    go_wp2
    go_ret
    refine ⟨?_, rfl⟩
    rw [decide_eq_false (show ¬ lo ≤ n by omega)]
    rfl
theorem tab_below' {P : Program} {w w' : World} {name : String} {k : IntKind} {zs : List Int} (h : Lib.TabIs P w name k zs) (hb : Below w.heap.size w w') : Lib.TabIs P w' name k zs := by
  unfold Lib.TabIs World.var? at *
  cases hg : P.globalNamed name with
  | none => rw [hg] at h; cases h
  | some g =>
    rw [hg] at h
    simp only [Option.bind_some] at h ⊢
    by_cases hlt : g < w.heap.size
    · rw [hb.block g hlt]; exact h
    · rw [Array.getElem?_eq_none (by omega)] at h; cases h
def libNumber : List PV → Option Ans
  | [.str s] => if s.length ≤ 1099511627776 then some ⟨[none], .tup [.int .i64 (numI s).1, .bool (numI s).2]⟩ else none
  | _ => none
theorem ifc_of_glob {G : Nat → Option (List PV)} {w : World} {R : Nat → Prop} {g : Nat} (hG : GlobOk G w R) (h : G g = some [.ifc]) : ∃ t v, w.cell? ⟨g, 0, none⟩ = some (.iface t v) := by
  obtain ⟨hv, _⟩ := hG g _ h
  simp only [V, Cs] at hv
  obtain ⟨_, a, us, ha, _, hc, u, us', f1, f2, rfl, _, ⟨⟨t, v, rfl⟩, _⟩, _⟩ := hv
  simp only [Value.pointer.injEq, Option.some.injEq] at ha
  subst ha
  have := hc 0 _ rfl
  rw [add_lit'] at this
  exact ⟨t, v, this⟩
end Go.Proofs.Ytjagjfjhinlgiaa.PVE
