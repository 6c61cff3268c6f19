/- Go's library at one-byte separators: strings.Count, strings.Index (the shelf's walks, turned to this seat), as pure contracts. -/
import Derived.Test.YtjagjfjhinlgiaaEG
import Derived.Test.YtjagjfjhinlgiaaChecked
import Derived.Lib.Strings
import Derived.Lib.Slices
import Derived.Lib.Walk
import Derived.Lib.Bytealg
set_option linter.unusedVariables false
set_option linter.unusedSimpArgs false
set_option linter.unusedSectionVars false
namespace Go.Proofs.Ytjagjfjhinlgiaa.PVE
open PV
/-- A contract of a function that looks at no memory. -/
theorem pcalls_pure {P : Program} {G : Nat → Option (List PV)} {f : Nat} {args : List PV} {res : PV} {vs : List Value} {v : Value} {bks : List (Option PV)} (al : Bool) (hfn : FnOk P f) (hargs : ∀ w R us fp, Ts w R (fun _ => none) args us fp → us = vs ∧ fp = []) (hres : ∀ w R, V w R (fun _ => none) res v [])
    (hb : ∀ w R, Bs w R vs bks []) (h : ∀ w, Calls P f vs.toArray w fun e w' => e = .returned v ∧ w' = w) : PCalls P G f args bks res al := by
  refine ⟨hfn, ?_⟩
  intro w R us fp hG hts hnd hfp hRb
  obtain ⟨rfl, rfl⟩ := hargs w R us fp hts
  refine (h w).mono ?_
  rintro e w' ⟨rfl, rfl⟩
  exact ⟨v, R, [], [], rfl, hres _ _, hb _ _, List.nodup_nil, by simp, fun b hb => hb, fun b hb => ⟨hRb b hb, .inl hb⟩, fun _ _ _ => rfl, Nat.le_refl _, ⟨rfl, fun _ => Nat.le_refl _⟩, rfl, rfl⟩
theorem args2 {w : World} {R : Nat → Prop} {a b : PV} {u v : Value} (ha : ∀ x fp, V w R (fun _ => none) a x fp → x = u ∧ fp = []) (hb : ∀ x fp, V w R (fun _ => none) b x fp → x = v ∧ fp = []) : ∀ us fp, Ts w R (fun _ => none) [a, b] us fp → us = [u, v] ∧ fp = [] := by
  intro us fp h
  simp only [Ts] at h
  obtain ⟨x, us', f1, f2, rfl, h1, ⟨y, us'', f3, f4, rfl, h2, ⟨rfl, rfl⟩, rfl⟩, rfl⟩ := h
  obtain ⟨rfl, rfl⟩ := ha _ _ h1
  obtain ⟨rfl, rfl⟩ := hb _ _ h2
  exact ⟨rfl, rfl⟩
theorem argStr {w : World} {R : Nat → Prop} {s : List UInt8} : ∀ x fp, V w R (fun _ => none) (.str s) x fp → x = .string ⟨s.toArray⟩ ∧ fp = [] := fun x fp h => by simpa only [V] using h
theorem argInt {w : World} {R : Nat → Prop} {k : IntKind} {n : Int} : ∀ x fp, V w R (fun _ => none) (.int k n) x fp → x = .int k n ∧ fp = [] := fun x fp h => by simpa only [V] using h
def libIndex : List PV → Option Ans
  | [.str s, .str [c]] => some ⟨[none, none], .int .i64 (Lib.indexByte s c)⟩
  | _ => none
def libCount : List PV → Option Ans
  | [.str s, .str [c]] => some ⟨[none, none], .int .i64 (Lib.countByte s c)⟩
  | _ => none
end Go.Proofs.Ytjagjfjhinlgiaa.PVE
