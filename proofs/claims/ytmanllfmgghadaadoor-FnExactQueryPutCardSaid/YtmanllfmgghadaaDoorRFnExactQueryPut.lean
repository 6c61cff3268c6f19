/- FnExactQueryPut returns true for every input that the row admits: the row, and its card, whose listed variables are tied to the program's text. -/
import Derived.Test.YtmanllfmgghadaaDoorT89
import Derived.Test.YtmanllfmgghadaaDoorC0
import Derived.Test.YtmanllfmgghadaaDoorRows
import Derived.Test.YtmanllfmgghadaaDoorCards
import Derived.Test.YtmanllfmgghadaaDoorTie
import Derived.SevenTiedAt
namespace Go.Proofs.YtmanllfmgghadaaDoor.RFnExactQueryPut
open Go.ChangeShapes Go.WideShapes Go.ChangeAt Go.RowKit
open Go.Proofs.YtmanllfmgghadaaDoor.PVE
set_option linter.unusedVariables false
set_option linter.unusedSimpArgs false
set_option maxRecDepth 100000
theorem lifted (os : Os) (started : os.Started) (H : Type) (enc : TypeId × Value → H) :
    ReturnsInHanded {} Tryd.checked os 3 .any (fun w args => (Rows.fnExactQueryPutSpec.pre enc Tryd.prog Tryd.f3 Rows.fnExactQueryPutRow.domain false w args ∧ laidMetH Tryd.prog Rows.fnExactQueryPutRow.laid w) ∧ sizedMet enc Tryd.prog Tryd.f3 (OpenSpec.ofChange Rows.fnExactQueryPutSpec) false w args)
      (Rows.fnExactQueryPutSpec.post enc Tryd.prog Tryd.f3 false true false false) := by
  refine returnsInHanded_of_change_and (C := Tryd.checked) (X := fun w _ => laidMetH Tryd.prog Rows.fnExactQueryPutRow.laid w) (fun _ _ _ hh h => h.of_heap hh) rOwn started (by kernel_rfl) Tryd.func3
    (ChangeSpec.witness_shaped (enc := enc) (C := Tryd.checked) (os := os) (X := fun w _ => laidMetH Tryd.prog Rows.fnExactQueryPutRow.laid w) false (World.laidAll Tryd.prog os Rows.fnExactQueryPutRow.laid) #[.agg #[.int .i64 0, .string ⟨#[]⟩, .string ⟨#[]⟩, .int .i64 0, .int .i64 0, .slice none 0 0]] 8 (World.laidAll_os _ _ _)
      (World.shaped_of_ZipB (by kernel_rfl) (by kernel_rfl)) (by kernel_rfl) (by kernel_rfl) (by kernel_rfl)
      (by rw [MakeChecks.laidMetH_plain _ _ _ (by kernel_rfl)]; exact laidMet_laidAll _ (by kernel_rfl) (by kernel_rfl))) ?_
  intro W base args ds gs before hval0 hW _ _ hL _
  rw [MakeChecks.laidMetH_plain _ _ _ (by kernel_rfl)] at hL
  have hG : GlobOk tab.G W (fun b => b < W.heap.size) := by
    exact globC (glob_stops (fun b hb => hb) hL.tail.tail.tail.tail) (globC (glob_pow (fun b hb => hb) hL.tail.tail) (globN))
  have hval : ∀ (j : Nat) t v, Tryd.f3.params[j]? = some t → args[j]? = some v → Value.okWide Tryd.prog W .any base t v := hval0
  have hW' := hW
  obtain ⟨p, q, hA0, hV, rfl, hfz, hnd⟩ := hW
  have hA : DataW.TrodAll enc Tryd.prog W 0 (fun _ => true) true Tryd.f3.params.toList args.toList ds p := hA0
  rw [Tryd.params3] at hA hval
  obtain ⟨v0, vs0, d0, ds0, p0, q0, hargs, rfl, rfl, h0, r0⟩ := trodAll_cons hA
  obtain ⟨rfl, rfl, rfl⟩ := trodAll_nil r0
  obtain rfl : args = #[v0] := by cases args; simp_all
  have lt0 : ∀ x ∈ p0, x.block < W.heap.size := by obtain ⟨m, hm⟩ := h0; exact DataW.trod_lt m _ _ _ hm
  obtain ⟨n0, pv0, ty0, tl0⟩ := arg_told (R := fun b => b < W.heap.size) (σ := fun _ => none) closed (fun b hb => hb) (by decide) h0
  obtain ⟨a0, rfl, _⟩ := okWide_struct Tryd.underlying24 (hval 0 24 v0 rfl rfl)
  obtain ⟨x0, rfl, z0⟩ := query_of _ _ ty0
  rw [Query.pv_eq] at tl0
  have V0 := told_agg tl0
  clear hA0 hval0
  refine (law_calls (tab_sound Tryd.checked.mixed lib_ok (FnExactQueryPut_R x0 z0)) hG ?_).mono fun e W' ⟨he, bel⟩ => ?_
  · simp only [Ts]
    exact ⟨_, _, [], [], rfl, V0, ⟨rfl, rfl⟩, rfl⟩
  subst he
  obtain ⟨dg, qg, rfl, hg⟩ := stops_stay bel hV
  exact ⟨_, rfl, _, _, _, [], _, _, hW', trodAll_mk1 (shut_bool Tryd.underlying4 _), (trodAll_cons_mk (Below.trod rLaid (by kernel_rfl) (of_decide_eq_true (by kernel_rfl)) h0 bel lt0) trodAll_mk0), hg, bel.frame _, fun h => by cases h⟩
theorem inPlace_is : Tryd.prog.inPlace 3 = Rows.fnExactQueryPutRow.inPlace := by kernel_rfl
theorem unfollowed_is : Tryd.prog.unfollowed 3 = Rows.fnExactQueryPutRow.unfollowed := by kernel_rfl
theorem recurses_is : Tryd.prog.recurses 3 = Rows.fnExactQueryPutRow.recurses := by kernel_rfl
theorem named_is : Tryd.prog.varsNamed 3 = Rows.fnExactQueryPutRow.named := by kernel_rfl
theorem facts : joinedFacts Tryd.prog 3 Tryd.f3 Rows.fnExactQueryPutSpec Rows.fnExactQueryPutRow = true := by
  unfold joinedFacts
  rw [inPlace_is, unfollowed_is, recurses_is, named_is, may_enter, lifts_final, make_cut, laid_out, maps_rowed, plain_keys, stops_heard]
  kernel_rfl
theorem holds : Rows.FnExactQueryPutSaid :=
  OpenClaim.holds_of_wide 3 Tryd.f3 rfl rfl rfl rfl rfl rfl rfl ⟨rfl, rfl, rfl, rfl, rfl⟩ rfl rfl rfl rfl rfl (by kernel_rfl) Tryd.func3 facts
    (of_decide_eq_true (by kernel_rfl)) (by unfold Func.isWrapper; first | (rw [if_pos (by decide +kernel)]; kernel_rfl) | (rw [if_neg (by decide +kernel)]; exact ⟨rfl, rfl⟩))
    (fun os started H enc _ => lifted os started H enc)
theorem wf_is : OpenClaim.wfByText (OpenSpec.ofChange Rows.fnExactQueryPutSpec) Rows.fnExactQueryPutRow = true := by kernel_rfl
theorem looks_is : false = Tryd.pinned.checked.prog.looks [] := by kernel_rfl
theorem goes_is : false = Rows.fnExactQueryPutRow.goesBy Tryd.pinned.checked.prog := by kernel_rfl
theorem card : Rows.FnExactQueryPutCardSaid :=
  Claim7.holds_tied_plain_at .later [] [.data, .data, .data, .data, .widerDeep, .pinned] true (true, _) false
    holds (fun _ h => by cases h) wf_is (fun _ h => by cases h) fnExactQueryPut_row_tie rfl ⟨rfl, rfl⟩ (by kernel_rfl) rfl
    (fun f fn hf hfn => by
      obtain rfl : f = 3 := Option.some.inj ((show Tryd.prog.funcNamed "loop.example/spandrel/laws.FnExactQueryPut" = some 3 by kernel_rfl).symm.trans hf) |>.symm
      obtain rfl : fn = Tryd.f3 := (Option.some.inj (Tryd.func3.symm.trans hfn)).symm
      exact ⟨looks_is, fun j t ht => by
        rw [Tryd.params3] at ht
        match j, ht with
        | 0, ht =>
          obtain rfl : t = 24 := by simpa using ht.symm
          exact (show Tryd.prog.wantsStandIn 24 = false by kernel_rfl)
        | j + 1, ht => simp at ht⟩)
    goes_is
#print axioms card
end Go.Proofs.YtmanllfmgghadaaDoor.RFnExactQueryPut
namespace Go.Proofs.YtmanllfmgghadaaDoor
theorem fnExactQueryPut_card : Rows.FnExactQueryPutCardSaid := RFnExactQueryPut.card
end Go.Proofs.YtmanllfmgghadaaDoor
