/- FnQuery returns true for every input that the row admits: the row, and its card, whose listed variables are tied to the program's text. -/
import Derived.Test.YtmanllfmgghadaaGreatDoorT90
import Derived.Test.YtmanllfmgghadaaGreatDoorC0
import Derived.Test.YtmanllfmgghadaaGreatDoorRows
import Derived.Test.YtmanllfmgghadaaGreatDoorCards
import Derived.Test.YtmanllfmgghadaaGreatDoorTie
import Derived.SevenTiedAt
namespace Go.Proofs.YtmanllfmgghadaaGreatDoor.RFnQuery
open Go.ChangeShapes Go.WideShapes Go.ChangeAt Go.RowKit
open Go.Proofs.YtmanllfmgghadaaGreatDoor.PVE
set_option linter.unusedVariables false
set_option linter.unusedSimpArgs false
set_option maxRecDepth 100000
theorem lifted (os : Os) (started : os.Started) (H : Type) (enc : TypeId × Value → H) :
    ReturnsInHanded {} Tryz.checked os 9 .any (fun w args => (Rows.fnQuerySpec.pre enc Tryz.prog Tryz.f9 Rows.fnQueryRow.domain false w args ∧ laidMetH Tryz.prog Rows.fnQueryRow.laid w) ∧ sizedMet enc Tryz.prog Tryz.f9 (OpenSpec.ofChange Rows.fnQuerySpec) false w args)
      (Rows.fnQuerySpec.post enc Tryz.prog Tryz.f9 false true false false) := by
  refine returnsInHanded_of_change_and (C := Tryz.checked) (X := fun w _ => laidMetH Tryz.prog Rows.fnQueryRow.laid w) (fun _ _ _ hh h => h.of_heap hh) rOwn started (by kernel_rfl) Tryz.func9
    (ChangeSpec.witness_shaped (enc := enc) (C := Tryz.checked) (os := os) (X := fun w _ => laidMetH Tryz.prog Rows.fnQueryRow.laid w) false (World.laidAll Tryz.prog os Rows.fnQueryRow.laid) #[.slice none 0 0, .slice none 0 0] 8 (World.laidAll_os _ _ _)
      (World.shaped_of_ZipB (by kernel_rfl) (by kernel_rfl)) (by kernel_rfl) (by kernel_rfl) (by kernel_rfl)
      (by rw [MakeChecks.laidMetH_plain _ _ _ (by kernel_rfl)]; exact laidMet_laidAll _ (by kernel_rfl) (by kernel_rfl))) ?_
  intro W base args ds gs before hval0 hW _ _ hL _
  rw [MakeChecks.laidMetH_plain _ _ _ (by kernel_rfl)] at hL
  have hG : GlobOk tab.G W (fun b => b < W.heap.size) := by
    exact globC (glob_stops (fun b hb => hb) hL.tail.tail.tail.tail.tail.tail) (globC (glob_ifc (g := 1) (ti := 218) (fun b hb => hb) (by kernel_rfl) (by kernel_rfl) Tryz.underlying218 hL.tail.tail.tail.tail.tail) (globC (glob_ifc (g := 2) (ti := 218) (fun b hb => hb) (by kernel_rfl) (by kernel_rfl) Tryz.underlying218 hL.tail.tail.tail.tail) (globC (glob_pow (fun b hb => hb) hL.tail.tail) (globN))))
  have hval : ∀ (j : Nat) t v, Tryz.f9.params[j]? = some t → args[j]? = some v → Value.okWide Tryz.prog W .any base t v := hval0
  have hW' := hW
  obtain ⟨p, q, hA0, hV, rfl, hfz, hnd⟩ := hW
  have hA : DataW.TrodAll enc Tryz.prog W 0 (fun _ => true) true Tryz.f9.params.toList args.toList ds p := hA0
  rw [Tryz.params9] at hA hval
  obtain ⟨v0, vs0, d0, ds0, p0, q0, hargs, rfl, rfl, h0, r0⟩ := trodAll_cons hA
  obtain ⟨v1, vs1, d1, ds1, p1, q1, rfl, rfl, rfl, h1, r1⟩ := trodAll_cons r0
  obtain ⟨rfl, rfl, rfl⟩ := trodAll_nil r1
  obtain rfl : args = #[v0, v1] := by cases args; simp_all
  have lt0 : ∀ x ∈ p0, x.block < W.heap.size := by obtain ⟨m, hm⟩ := h0; exact DataW.trod_lt m _ _ _ hm
  obtain ⟨n0, pv0, ty0, tl0⟩ := arg_told (R := fun b => b < W.heap.size) (σ := fun _ => none) closed (fun b hb => hb) (by decide) h0
  obtain ⟨a0, len0, cap0, rfl⟩ := okWide_slice Tryz.underlying77 (hval 0 77 v0 rfl rfl)
  obtain ⟨x0, rfl, z0⟩ := u8s_of ty0
  have V0 := told_sl tl0
  have lt1 : ∀ x ∈ p1, x.block < W.heap.size := by obtain ⟨m, hm⟩ := h1; exact DataW.trod_lt m _ _ _ hm
  obtain ⟨n1, pv1, ty1, tl1⟩ := arg_told (R := fun b => b < W.heap.size) (σ := fun _ => none) closed (fun b hb => hb) (by decide) h1
  obtain ⟨a1, len1, cap1, rfl⟩ := okWide_slice Tryz.underlying77 (hval 1 77 v1 rfl rfl)
  obtain ⟨x1, rfl, z1⟩ := u8s_of ty1
  have V1 := told_sl tl1
  clear hA0 hval0
  refine (law_calls (tab_sound Tryz.checked.mixed lib_ok (FnQuery_R x0 x1 z0 z1)) hG ?_).mono fun e W' ⟨he, bel⟩ => ?_
  · simp only [Ts]
    exact ⟨_, _, [], [], rfl, V0, ⟨_, _, [], [], rfl, V1, ⟨rfl, rfl⟩, rfl⟩, rfl⟩
  subst he
  obtain ⟨dg, qg, rfl, hg⟩ := stops_stay bel hV
  exact ⟨_, rfl, _, _, _, [], _, _, hW', trodAll_mk1 (shut_bool Tryz.underlying4 _), (trodAll_cons_mk (Below.trod rLaid (by kernel_rfl) (of_decide_eq_true (by kernel_rfl)) h0 bel lt0) (trodAll_cons_mk (Below.trod rLaid (by kernel_rfl) (of_decide_eq_true (by kernel_rfl)) h1 bel lt1) trodAll_mk0)), hg, bel.frame _, fun h => by cases h⟩
theorem inPlace_is : Tryz.prog.inPlace 9 = Rows.fnQueryRow.inPlace := by kernel_rfl
theorem unfollowed_is : Tryz.prog.unfollowed 9 = Rows.fnQueryRow.unfollowed := by kernel_rfl
theorem recurses_is : Tryz.prog.recurses 9 = Rows.fnQueryRow.recurses := by kernel_rfl
theorem named_is : Tryz.prog.varsNamed 9 = Rows.fnQueryRow.named := by kernel_rfl
theorem facts : joinedFacts Tryz.prog 9 Tryz.f9 Rows.fnQuerySpec Rows.fnQueryRow = true := by
  unfold joinedFacts
  rw [inPlace_is, unfollowed_is, recurses_is, named_is, may_enter, lifts_final, make_cut, laid_out, maps_rowed, plain_keys, stops_heard]
  kernel_rfl
theorem holds : Rows.FnQuerySaid :=
  OpenClaim.holds_of_wide 9 Tryz.f9 rfl rfl rfl rfl rfl rfl rfl ⟨rfl, rfl, rfl, rfl, rfl⟩ rfl rfl rfl rfl rfl (by kernel_rfl) Tryz.func9 facts
    (of_decide_eq_true (by kernel_rfl)) (by unfold Func.isWrapper; first | (rw [if_pos (by decide +kernel)]; kernel_rfl) | (rw [if_neg (by decide +kernel)]; exact ⟨rfl, rfl⟩))
    (fun os started H enc _ => lifted os started H enc)
theorem wf_is : OpenClaim.wfByText (OpenSpec.ofChange Rows.fnQuerySpec) Rows.fnQueryRow = true := by kernel_rfl
theorem looks_is : true = Tryz.pinned.checked.prog.looks [] := by kernel_rfl
theorem goes_is : false = Rows.fnQueryRow.goesBy Tryz.pinned.checked.prog := by kernel_rfl
theorem card : Rows.FnQueryCardSaid :=
  Claim7.holds_tied_plain_at .later [] [.data, .data, .data, .data, .sentinel, .sentinel, .widerDeep, .pinned] true (true, _) true
    holds (fun _ h => by cases h) wf_is (fun _ h => by cases h) fnQuery_row_tie rfl ⟨rfl, rfl⟩ (by kernel_rfl) rfl
    (fun f fn hf hfn => by
      obtain rfl : f = 9 := Option.some.inj ((show Tryz.prog.funcNamed "loop.example/spandrel/laws.FnQuery" = some 9 by kernel_rfl).symm.trans hf) |>.symm
      obtain rfl : fn = Tryz.f9 := (Option.some.inj (Tryz.func9.symm.trans hfn)).symm
      exact ⟨looks_is, fun j t ht => by
        rw [Tryz.params9] at ht
        match j, ht with
        | 0, ht =>
          obtain rfl : t = 77 := by simpa using ht.symm
          exact (show Tryz.prog.wantsStandIn 77 = false by kernel_rfl)
        | 1, ht =>
          obtain rfl : t = 77 := by simpa using ht.symm
          exact (show Tryz.prog.wantsStandIn 77 = false by kernel_rfl)
        | j + 2, ht => simp at ht⟩)
    goes_is
#print axioms card
end Go.Proofs.YtmanllfmgghadaaGreatDoor.RFnQuery
namespace Go.Proofs.YtmanllfmgghadaaGreatDoor
theorem fnQuery_card : Rows.FnQueryCardSaid := RFnQuery.card
end Go.Proofs.YtmanllfmgghadaaGreatDoor
