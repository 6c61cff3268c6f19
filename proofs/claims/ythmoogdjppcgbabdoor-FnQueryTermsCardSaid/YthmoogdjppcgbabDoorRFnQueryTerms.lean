/- FnQueryTerms returns true for every input that the row admits: the row, and its card, whose listed variables are tied to the program's text. -/
import Derived.Test.YthmoogdjppcgbabDoorT11
import Derived.Test.YthmoogdjppcgbabDoorC0
import Derived.Test.YthmoogdjppcgbabDoorRows
import Derived.Test.YthmoogdjppcgbabDoorCards
import Derived.Test.YthmoogdjppcgbabDoorTie
import Derived.SevenTiedAt
namespace Go.Proofs.YthmoogdjppcgbabDoor.RFnQueryTerms
open Go.ChangeShapes Go.WideShapes Go.ChangeAt Go.RowKit
open Go.Proofs.YthmoogdjppcgbabDoor.PVE
set_option linter.unusedVariables false
set_option linter.unusedSimpArgs false
set_option maxRecDepth 100000
theorem lifted (os : Os) (started : os.Started) (H : Type) (enc : TypeId × Value → H) :
    ReturnsInHanded {} Tryd.checked os 4 .any (fun w args => (Rows.fnQueryTermsSpec.pre enc Tryd.prog Tryd.f4 Rows.fnQueryTermsRow.domain false w args ∧ laidMetH Tryd.prog Rows.fnQueryTermsRow.laid w) ∧ sizedMet enc Tryd.prog Tryd.f4 (OpenSpec.ofChange Rows.fnQueryTermsSpec) false w args)
      (Rows.fnQueryTermsSpec.post enc Tryd.prog Tryd.f4 false true false false) := by
  refine returnsInHanded_of_change_and (C := Tryd.checked) (X := fun w _ => laidMetH Tryd.prog Rows.fnQueryTermsRow.laid w) (fun _ _ _ hh h => h.of_heap hh) rOwn started (by kernel_rfl) Tryd.func4
    (ChangeSpec.witness_shaped (enc := enc) (C := Tryd.checked) (os := os) (X := fun w _ => laidMetH Tryd.prog Rows.fnQueryTermsRow.laid w) false (World.laidAll Tryd.prog os Rows.fnQueryTermsRow.laid) #[.slice none 0 0] 8 (World.laidAll_os _ _ _)
      (World.shaped_of_ZipB (by kernel_rfl) (by kernel_rfl)) (by kernel_rfl) (by kernel_rfl) (by kernel_rfl)
      (by rw [MakeChecks.laidMetH_plain _ _ _ (by kernel_rfl)]; exact laidMet_laidAll _ (by kernel_rfl) (by kernel_rfl))) ?_
  intro W base args ds gs before hval0 hW _ _ hL _
  rw [MakeChecks.laidMetH_plain _ _ _ (by kernel_rfl)] at hL
  have hG : GlobOk tab.G W (fun b => b < W.heap.size) := by
    exact globC (glob_stops (fun b hb => hb) hL.tail) (globN)
  have hval : ∀ (j : Nat) t v, Tryd.f4.params[j]? = some t → args[j]? = some v → Value.okWide Tryd.prog W .any base t v := hval0
  have hW' := hW
  obtain ⟨p, q, hA0, hV, rfl, hfz, hnd⟩ := hW
  have hA : DataW.TrodAll enc Tryd.prog W 0 (fun _ => true) true Tryd.f4.params.toList args.toList ds p := hA0
  rw [Tryd.params4] at hA hval
  obtain ⟨v0, vs0, d0, ds0, p0, q0, hargs, rfl, rfl, h0, r0⟩ := trodAll_cons hA
  obtain ⟨rfl, rfl, rfl⟩ := trodAll_nil r0
  obtain rfl : args = #[v0] := by cases args; simp_all
  have lt0 : ∀ x ∈ p0, x.block < W.heap.size := by obtain ⟨m, hm⟩ := h0; exact DataW.trod_lt m _ _ _ hm
  obtain ⟨n0, pv0, ty0, tl0⟩ := arg_told (R := fun b => b < W.heap.size) (σ := fun _ => none) closed (fun b hb => hb) (by decide) h0
  obtain ⟨a0, len0, cap0, rfl⟩ := okWide_slice Tryd.underlying33 (hval 0 33 v0 rfl rfl)
  obtain ⟨x0, rfl, z0⟩ := u8s_of ty0
  have V0 := told_sl tl0
  clear hA0 hval0
  refine (law_calls (tab_sound Tryd.checked.mixed lib_ok (fnQueryTerms_R x0 z0)) hG ?_).mono fun e W' ⟨he, bel⟩ => ?_
  · simp only [Ts]
    exact ⟨_, _, [], [], rfl, V0, ⟨rfl, rfl⟩, rfl⟩
  subst he
  obtain ⟨dg, qg, rfl, hg⟩ := stops_stay bel hV
  exact ⟨_, rfl, _, _, _, [], _, _, hW', trodAll_mk1 (shut_bool Tryd.underlying4 _), (trodAll_cons_mk (Below.trod rLaid (by kernel_rfl) (of_decide_eq_true (by kernel_rfl)) h0 bel lt0) trodAll_mk0), hg, bel.frame _, fun h => by cases h⟩
theorem holds : Rows.FnQueryTermsSaid :=
  OpenClaim.holds_of_wide 4 Tryd.f4 rfl rfl rfl rfl rfl rfl rfl ⟨rfl, rfl, rfl, rfl, rfl⟩ rfl rfl rfl rfl rfl (by kernel_rfl) Tryd.func4 (by kernel_rfl)
    (of_decide_eq_true (by kernel_rfl)) (by unfold Func.isWrapper; first | (rw [if_pos (by decide +kernel)]; kernel_rfl) | (rw [if_neg (by decide +kernel)]; exact ⟨rfl, rfl⟩))
    (fun os started H enc _ => lifted os started H enc)
theorem card : Rows.FnQueryTermsCardSaid :=
  Claim7.holds_tied_plain_at .later [] [.data, .widerDeep, .pinned] true (true, _) false
    holds (fun _ h => by cases h) (by kernel_rfl) (fun _ h => by cases h) fnQueryTerms_row_tie rfl ⟨rfl, rfl⟩ (by kernel_rfl) rfl
    (fun f fn hf hfn => by
      obtain rfl : f = 4 := Option.some.inj ((show Tryd.prog.funcNamed "loop.example/spandrel/laws.FnQueryTerms" = some 4 by kernel_rfl).symm.trans hf) |>.symm
      obtain rfl : fn = Tryd.f4 := (Option.some.inj (Tryd.func4.symm.trans hfn)).symm
      exact ⟨by kernel_rfl, fun j t ht => by
        rw [Tryd.params4] at ht
        match j, ht with
        | 0, ht =>
          obtain rfl : t = 33 := by simpa using ht.symm
          exact (show Tryd.prog.wantsStandIn 33 = false by kernel_rfl)
        | j + 1, ht => simp at ht⟩)
    (by kernel_rfl)
#print axioms card
end Go.Proofs.YthmoogdjppcgbabDoor.RFnQueryTerms
namespace Go.Proofs.YthmoogdjppcgbabDoor
/-- The tied card, under a short name, for the claim. -/
theorem fnQueryTerms_card : Rows.FnQueryTermsCardSaid := RFnQueryTerms.card
end Go.Proofs.YthmoogdjppcgbabDoor
