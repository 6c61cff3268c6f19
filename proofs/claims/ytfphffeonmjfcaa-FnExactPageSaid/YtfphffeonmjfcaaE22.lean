/- The PV engine, part 22: the table of types, read off the program. -/
import Derived.Test.YtfphffeonmjfcaaE21
set_option linter.unusedVariables false
set_option linter.unusedSimpArgs false
set_option linter.unusedSectionVars false
namespace Go.Proofs.Ytfphffeonmjfcaa.PVE
open PV

def tyDesc (P : Program) : TypeDesc → Option TyD
  | .int k => some (.int k)
  | .bool => some .bool
  | .string => some .str
  | .slice e => some (.slice e)
  | .pointer e => some (.ptr e)
  | .struct fds => if fds.toList.all (fun f => match P.info? f.type with
      | some ti => ti.size != 0
      | none => false) then some (.struct (fds.toList.map fun f => (f.offset, f.type))) else none
  | .array _ _ => none
  | _ => some .other

def aggOk : TyD → Value → Bool
  | .struct _, .agg _ => true
  | .struct _, _ => false
  | _, .agg _ => false
  | _, z => z.oneCell'
def tyOf (P : Program) (t : Nat) : Option TyI :=
  match P.info? t, P.underlying t with
  | some ti, some d => match ti.zero, tyDesc P d with
    | some z, some d' => if z.cells.size = ti.size ∧ 0 < ti.size ∧ z.cells.toList.all (fun u => u.oneCell') = true ∧ aggOk d' z = true then some ⟨d', ti.size, ti.bytes, z.cells.toList.map leafPV⟩ else none
    | _, _ => none
  | _, _ => none

theorem zv_leaf {u : Value} (h : u.oneCell' = true) : zv (leafPV u) = some u := by
  unfold leafPV
  split <;> simp_all [zv]

theorem tyOk_tyOf (P : Program) : TyOk P (tyOf P) := by
  intro t i hi
  unfold tyOf at hi
  split at hi
  case h_2 => cases hi
  rename_i ti d h1 h2
  split at hi
  case h_2 => cases hi
  rename_i z d' h3 h4
  split at hi
  case isFalse => cases hi
  rename_i hc
  obtain ⟨c1, c2, c3, c4⟩ := hc
  simp only [Option.some.injEq] at hi
  subst hi
  refine ⟨?_, ti, z, h1, h3, rfl, rfl, c1, c2, fun ha => ?_, fun ha => ?_, ?_⟩
  · cases d <;> simp only [tyDesc, Option.some.injEq] at h4 <;> (try subst h4) <;> simp only [DescOk, h2, Option.some.injEq, reduceCtorEq] <;> (try exact ⟨_, rfl, trivial⟩)
    case struct fds =>
      split at h4
      case isFalse => cases h4
      rename_i hall
      simp only [Option.some.injEq] at h4
      subst h4
      refine ⟨fds, rfl, rfl, fun f hf => ?_⟩
      have := List.all_eq_true.1 hall f hf
      split at this
      · rename_i ti hti
        exact ⟨ti, hti, by simpa using this⟩
      · cases this
    all_goals cases h4
  · cases d' <;> simp [isAggT] at ha
    cases z <;> simp [aggOk] at c4
    exact ⟨_, rfl⟩
  · cases d' <;> simp [isAggT] at ha <;> cases z <;> simp_all [aggOk]
  · rw [List.map_map]
    apply List.map_congr_left
    intro u hu
    exact zv_leaf (List.all_eq_true.1 c3 u hu)

end Go.Proofs.Ytfphffeonmjfcaa.PVE
