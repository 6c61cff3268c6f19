import Derived.Test.YtfphffeonmjfcaaT4
import Derived.Test.YtfphffeonmjfcaaE25
import Derived.Test.YtfphffeonmjfcaaRows
import Derived.WalkKit
import Derived.ProofKit
import Derived.OpenShut
import Derived.ShutString
import Derived.ChangeOld
import Derived.Below
import Derived.SizedLaws
namespace Go.Proofs.Ytfphffeonmjfcaa.fnExactPage
open Go.ChangeShapes Go.WideShapes Go.ChangeAt Go.RowKit
open Go.ChangeMaps (open_string shut_string)
open Go.Proofs.Ytfphffeonmjfcaa.PVE
set_option linter.unusedVariables false
set_option linter.unusedSimpArgs false
theorem own : ownKnob Try.prog.godebug = none := by kernel_rfl
theorem laidOut : laidOutB Try.prog = true := by kernel_rfl
theorem simple22 : simpleTy Try.prog 3 22 = true := by kernel_rfl
set_option maxRecDepth 100000 in
theorem hit_of {x : PV} (h : Ty Try.prog 2 36 x) : ∃ a : Hit, x = a.pv := by
  simp only [Ty, Try.underlying36] at h
  obtain ⟨ps, rfl, hl, hf⟩ := h
  match ps, hl with
  | [p0, p1, p2], _ =>
    have h0 := hf 0 _ p0 rfl rfl
    have h1 := hf 1 _ p1 rfl rfl
    have h2 := hf 2 _ p2 rfl rfl
    simp only [Ty, Try.underlying3, Try.underlying9] at h0 h1 h2
    obtain ⟨i, rfl, _⟩ := h0
    obtain ⟨k, rfl, _⟩ := h1
    obtain ⟨s, rfl, _⟩ := h2
    exact ⟨⟨i, k, s⟩, rfl⟩
set_option maxRecDepth 100000 in
theorem lifted (os : Os) (started : os.Started) (H : Type) (enc : TypeId × Value → H) :
    ReturnsInHanded {} Try.checked os 3 .any (Rows.fnExactPageSpec.pre6 enc Try.prog Try.f3 Rows.fnExactPageRow.domain false) (Rows.fnExactPageSpec.post enc Try.prog Try.f3 false true false false) := by
  refine returnsInHanded_of_change_sized (C := Try.checked) own started (by kernel_rfl) Try.func3
    (ChangeSpec.witness6 (enc := enc) (C := Try.checked) false ⟨#[], #[.slice none 0 0, .int .i64 0, .int .i64 0], []⟩ 8 (by kernel_rfl) (by kernel_rfl) (by kernel_rfl) (by kernel_rfl)) ?_
  intro W base args ds gs before hval0 hW hcnd hsz0 _
  have hval : ∀ (j : Nat) t v, Try.f3.params[j]? = some t → args[j]? = some v → Value.okWide Try.prog W .any base t v := hval0
  have hW' := hW
  obtain ⟨p, q, hA0, hV, rfl, hfz, hnd⟩ := hW
  have hA : DataW.TrodAll enc Try.prog W 0 (fun _ => true) true Try.f3.params.toList args.toList ds p := hA0
  rw [Try.params3] at hA hval
  obtain ⟨v0, vs0, d0, ds0, p0, q0, hargs, rfl, rfl, h0, r0⟩ := trodAll_cons hA
  obtain ⟨v1, vs1, d1, ds1, p1, q1, rfl, rfl, rfl, h1, r1⟩ := trodAll_cons r0
  obtain ⟨v2, vs2, d2, ds2, p2, q2, rfl, rfl, rfl, h2, r2⟩ := trodAll_cons r1
  obtain ⟨rfl, rfl, rfl⟩ := trodAll_nil r2
  obtain rfl : args = #[v0, v1, v2] := by cases args; simp_all
  obtain ⟨rfl, rfl⟩ := trodVars_none hV
  obtain ⟨a0, len0, cap0, rfl⟩ := okWide_slice Try.underlying22 (hval 0 22 v0 rfl rfl)
  have k0 := h0
  have lt0 : ∀ x ∈ p0, x.block < W.heap.size := by obtain ⟨m, hm⟩ := k0; exact DataW.trod_lt m _ _ _ hm
  obtain ⟨es, hes, hty, hV0⟩ := arg_slice (R := fun b => b < W.heap.size) (σ := fun _ => none) (fun b hb => hb) simple22 Try.underlying22 h0
  obtain ⟨l, rfl⟩ := lift_list (f := Hit.pv) fun x hx => hit_of (hty x hx)
  obtain ⟨a1, rfl, rfl, rfl, w1⟩ := open_int Try.underlying3 (hval 1 3 v1 rfl rfl) h1
  obtain ⟨a2, rfl, rfl, rfl, w2⟩ := open_int Try.underlying3 (hval 2 3 v2 rfl rfl) h2
  clear hA0 hval0 hsz0
  have hl : l.length ≤ 9223372036854775807 := by simpa [maxLen] using hes
  refine (law_calls (main_calls l a1 a2 hl) (fun g cs hg => by cases hg) ?_).mono fun e W' ⟨he, bel⟩ => ?_
  · simp only [Ts]
    exact ⟨_, _, [], [], rfl, hV0, ⟨_, _, [], [], rfl, by simp [V], ⟨_, _, [], [], rfl, by simp [V], ⟨rfl, rfl⟩, rfl⟩, rfl⟩, rfl⟩
  subst he
  exact ⟨_, rfl, _, _, _, [], _, [], hW', trodAll_mk1 (shut_bool Try.underlying4 _), (trodAll_cons_mk (Below.trod laidOut (by kernel_rfl) (of_decide_eq_true (by kernel_rfl)) k0 bel lt0) (trodAll_cons_mk (shut_int Try.underlying3 w1) (trodAll_cons_mk (shut_int Try.underlying3 w2) trodAll_mk0))), rfl, bel.frame _, fun h => by cases h⟩
theorem over : Rows.fnExactPageRow.holds Try.pinned (OpenSpec.ofChange Rows.fnExactPageSpec) :=
  OpenClaim.holds_of_wide 3 Try.f3 rfl rfl rfl rfl rfl rfl rfl ⟨rfl, rfl, rfl, rfl, rfl⟩ rfl rfl rfl rfl rfl (by kernel_rfl) Try.func3 (by kernel_rfl)
    (of_decide_eq_true (by kernel_rfl)) (by unfold Func.isWrapper; first | (rw [if_pos (by decide +kernel)]; kernel_rfl) | (rw [if_neg (by decide +kernel)]; exact ⟨rfl, rfl⟩))
    (fun os started H enc _ => lifted os started H enc)
theorem proved : Rows.FnExactPageSaid := over
#print axioms proved
end Go.Proofs.Ytfphffeonmjfcaa.fnExactPage
namespace Go.Proofs.Ytfphffeonmjfcaa
/-- The row, under a short name, for the claim. -/
theorem fnExactPage_holds : Rows.FnExactPageSaid := fnExactPage.proved
end Go.Proofs.Ytfphffeonmjfcaa
