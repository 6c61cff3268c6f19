/- FnExactQueryGet returns true for every input that the row admits: the row, and its card, whose listed variables are tied to the program's text. -/
import Derived.Test.YtmanllfmgghadaaGreatDoorT89
import Derived.Test.YtmanllfmgghadaaGreatDoorC0
import Derived.Test.YtmanllfmgghadaaGreatDoorRows
import Derived.Test.YtmanllfmgghadaaGreatDoorCards
import Derived.Test.YtmanllfmgghadaaGreatDoorTie
import Derived.SevenTiedAt
namespace Go.Proofs.YtmanllfmgghadaaGreatDoor.RFnExactQueryGet
open Go.ChangeShapes Go.WideShapes Go.ChangeAt Go.RowKit
open Go.Proofs.YtmanllfmgghadaaGreatDoor.PVE
set_option linter.unusedVariables false
set_option linter.unusedSimpArgs false
set_option maxRecDepth 100000
theorem lifted (os : Os) (started : os.Started) (H : Type) (enc : TypeId × Value → H) :
    ReturnsInHanded {} Tryz.checked os 8 .any (fun w args => (Rows.fnExactQueryGetSpec.pre enc Tryz.prog Tryz.f8 Rows.fnExactQueryGetRow.domain false w args ∧ laidMetH Tryz.prog Rows.fnExactQueryGetRow.laid w) ∧ sizedMet enc Tryz.prog Tryz.f8 (OpenSpec.ofChange Rows.fnExactQueryGetSpec) false w args)
      (Rows.fnExactQueryGetSpec.post enc Tryz.prog Tryz.f8 false true false false) := by
  refine returnsInHanded_of_change_and (C := Tryz.checked) (X := fun w _ => laidMetH Tryz.prog Rows.fnExactQueryGetRow.laid w) (fun _ _ _ hh h => h.of_heap hh) rOwn started (by kernel_rfl) Tryz.func8
    (ChangeSpec.witness_shaped (enc := enc) (C := Tryz.checked) (os := os) (X := fun w _ => laidMetH Tryz.prog Rows.fnExactQueryGetRow.laid w) false (World.laidAll Tryz.prog os Rows.fnExactQueryGetRow.laid) #[.string ⟨#[]⟩] 8 (World.laidAll_os _ _ _)
      (World.shaped_of_ZipB (by kernel_rfl) (by kernel_rfl)) (by kernel_rfl) (by kernel_rfl) (by kernel_rfl)
      (by rw [MakeChecks.laidMetH_plain _ _ _ (by kernel_rfl)]; exact laidMet_laidAll _ (by kernel_rfl) (by kernel_rfl))) ?_
  intro W base args ds gs before hval0 hW _ _ hL _
  rw [MakeChecks.laidMetH_plain _ _ _ (by kernel_rfl)] at hL
  have hG : GlobOk tab.G W (fun b => b < W.heap.size) := by
    exact globC (glob_stops (fun b hb => hb) hL.tail.tail.tail.tail.tail.tail) (globC (glob_ifc (g := 1) (ti := 218) (fun b hb => hb) (by kernel_rfl) (by kernel_rfl) Tryz.underlying218 hL.tail.tail.tail.tail.tail) (globC (glob_ifc (g := 2) (ti := 218) (fun b hb => hb) (by kernel_rfl) (by kernel_rfl) Tryz.underlying218 hL.tail.tail.tail.tail) (globC (glob_pow (fun b hb => hb) hL.tail.tail) (globN))))
  have hval : ∀ (j : Nat) t v, Tryz.f8.params[j]? = some t → args[j]? = some v → Value.okWide Tryz.prog W .any base t v := hval0
  have hW' := hW
  obtain ⟨p, q, hA0, hV, rfl, hfz, hnd⟩ := hW
  have hA : DataW.TrodAll enc Tryz.prog W 0 (fun _ => true) true Tryz.f8.params.toList args.toList ds p := hA0
  rw [Tryz.params8] at hA hval
  obtain ⟨v0, vs0, d0, ds0, p0, q0, hargs, rfl, rfl, h0, r0⟩ := trodAll_cons hA
  obtain ⟨rfl, rfl, rfl⟩ := trodAll_nil r0
  obtain rfl : args = #[v0] := by cases args; simp_all
  have lt0 : ∀ x ∈ p0, x.block < W.heap.size := by obtain ⟨m, hm⟩ := h0; exact DataW.trod_lt m _ _ _ hm
  obtain ⟨n0, pv0, ty0, tl0⟩ := arg_told (R := fun b => b < W.heap.size) (σ := fun _ => none) closed (fun b hb => hb) (by decide) h0
  obtain ⟨a0, rfl⟩ := okWide_string Tryz.underlying9 (hval 0 9 v0 rfl rfl)
  obtain ⟨x0, rfl, z0⟩ := str_of ty0
  have V0 := told_str tl0 rfl
  clear hA0 hval0
  refine (law_calls (tab_sound Tryz.checked.mixed lib_ok (FnExactQueryGet_R x0 z0)) hG ?_).mono fun e W' ⟨he, bel⟩ => ?_
  · simp only [Ts]
    exact ⟨_, _, [], [], rfl, V0, ⟨rfl, rfl⟩, rfl⟩
  subst he
  obtain ⟨dg, qg, rfl, hg⟩ := stops_stay bel hV
  exact ⟨_, rfl, _, _, _, [], _, _, hW', trodAll_mk1 (shut_bool Tryz.underlying4 _), (trodAll_cons_mk (Below.trod rLaid (by kernel_rfl) (of_decide_eq_true (by kernel_rfl)) h0 bel lt0) trodAll_mk0), hg, bel.frame _, fun h => by cases h⟩
theorem inPlace_is : Tryz.prog.inPlace 8 = Rows.fnExactQueryGetRow.inPlace := by kernel_rfl
theorem unfollowed_is : Tryz.prog.unfollowed 8 = Rows.fnExactQueryGetRow.unfollowed := by kernel_rfl
theorem recurses_is : Tryz.prog.recurses 8 = Rows.fnExactQueryGetRow.recurses := by kernel_rfl
theorem named_is : Tryz.prog.varsNamed 8 = Rows.fnExactQueryGetRow.named := by kernel_rfl
theorem facts : joinedFacts Tryz.prog 8 Tryz.f8 Rows.fnExactQueryGetSpec Rows.fnExactQueryGetRow = true := by
  unfold joinedFacts
  rw [inPlace_is, unfollowed_is, recurses_is, named_is, may_enter, lifts_final, make_cut, laid_out, maps_rowed, plain_keys, stops_heard]
  kernel_rfl
theorem holds : Rows.FnExactQueryGetSaid :=
  OpenClaim.holds_of_wide 8 Tryz.f8 rfl rfl rfl rfl rfl rfl rfl ⟨rfl, rfl, rfl, rfl, rfl⟩ rfl rfl rfl rfl rfl (by kernel_rfl) Tryz.func8 facts
    (of_decide_eq_true (by kernel_rfl)) (by unfold Func.isWrapper; first | (rw [if_pos (by decide +kernel)]; kernel_rfl) | (rw [if_neg (by decide +kernel)]; exact ⟨rfl, rfl⟩))
    (fun os started H enc _ => lifted os started H enc)
theorem wf_is : OpenClaim.wfByText (OpenSpec.ofChange Rows.fnExactQueryGetSpec) Rows.fnExactQueryGetRow = true := by kernel_rfl
theorem looks_is : true = Tryz.pinned.checked.prog.looks [] := by kernel_rfl
theorem goes_is : false = Rows.fnExactQueryGetRow.goesBy Tryz.pinned.checked.prog := by kernel_rfl
theorem card : Rows.FnExactQueryGetCardSaid :=
  Claim7.holds_tied_plain_at .later [] [.data, .data, .data, .data, .sentinel, .sentinel, .widerDeep, .pinned] true (true, _) true
    holds (fun _ h => by cases h) wf_is (fun _ h => by cases h) fnExactQueryGet_row_tie rfl ⟨rfl, rfl⟩ (by kernel_rfl) rfl
    (fun f fn hf hfn => by
      obtain rfl : f = 8 := Option.some.inj ((show Tryz.prog.funcNamed "loop.example/spandrel/laws.FnExactQueryGet" = some 8 by kernel_rfl).symm.trans hf) |>.symm
      obtain rfl : fn = Tryz.f8 := (Option.some.inj (Tryz.func8.symm.trans hfn)).symm
      exact ⟨looks_is, fun j t ht => by
        rw [Tryz.params8] at ht
        match j, ht with
        | 0, ht =>
          obtain rfl : t = 9 := by simpa using ht.symm
          exact (show Tryz.prog.wantsStandIn 9 = false by kernel_rfl)
        | j + 1, ht => simp at ht⟩)
    goes_is
#print axioms card
end Go.Proofs.YtmanllfmgghadaaGreatDoor.RFnExactQueryGet
namespace Go.Proofs.YtmanllfmgghadaaGreatDoor
theorem fnExactQueryGet_card : Rows.FnExactQueryGetCardSaid := RFnExactQueryGet.card
end Go.Proofs.YtmanllfmgghadaaGreatDoor
