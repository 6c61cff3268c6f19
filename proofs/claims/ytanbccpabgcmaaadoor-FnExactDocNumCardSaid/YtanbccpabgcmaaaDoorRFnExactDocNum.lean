/- FnExactDocNum returns true for every input that the row admits: the row, and its card, whose listed variables are tied to the program's text. -/
import Derived.Test.YtanbccpabgcmaaaDoorT18
import Derived.Test.YtanbccpabgcmaaaDoorC1
import Derived.Test.YtanbccpabgcmaaaDoorC0
import Derived.Test.YtanbccpabgcmaaaDoorRows
import Derived.Test.YtanbccpabgcmaaaDoorCards
import Derived.Test.YtanbccpabgcmaaaDoorTie
import Derived.SevenTiedAt
namespace Go.Proofs.YtanbccpabgcmaaaDoor.RFnExactDocNum
open Go.ChangeShapes Go.WideShapes Go.ChangeAt Go.RowKit
open Go.Proofs.YtanbccpabgcmaaaDoor.PVE
set_option linter.unusedVariables false
set_option linter.unusedSimpArgs false
set_option maxRecDepth 100000
theorem lifted (os : Os) (started : os.Started) (H : Type) (enc : TypeId × Value → H) :
    ReturnsInHanded {} Tryd.checked os 3 .any (fun w args => (Rows.fnExactDocNumSpec.pre enc Tryd.prog Tryd.f3 Rows.fnExactDocNumRow.domain false w args ∧ laidMetH Tryd.prog Rows.fnExactDocNumRow.laid w) ∧ sizedMet enc Tryd.prog Tryd.f3 (OpenSpec.ofChange Rows.fnExactDocNumSpec) false w args)
      (Rows.fnExactDocNumSpec.post enc Tryd.prog Tryd.f3 false true false false) := by
  refine returnsInHanded_of_change_and (C := Tryd.checked) (X := fun w _ => laidMetH Tryd.prog Rows.fnExactDocNumRow.laid w) (fun _ _ _ hh h => h.of_heap hh) rOwn started (by kernel_rfl) Tryd.func3
    (ChangeSpec.witness_shaped (enc := enc) (C := Tryd.checked) (os := os) (X := fun w _ => laidMetH Tryd.prog Rows.fnExactDocNumRow.laid w) false (World.laidAll Tryd.prog os Rows.fnExactDocNumRow.laid) #[.slice none 0 0, .agg #[.string ⟨#[]⟩, .slice none 0 0], .string ⟨#[]⟩] 8 (World.laidAll_os _ _ _)
      (World.shaped_of_ZipB (by kernel_rfl) (by kernel_rfl)) (by kernel_rfl) (by kernel_rfl) (by kernel_rfl)
      (by rw [MakeChecks.laidMetH_plain _ _ _ (by kernel_rfl)]; exact laidMet_laidAll _ (by kernel_rfl) (by kernel_rfl))) ?_
  intro W base args ds gs before hval0 hW _ _ hL _
  rw [MakeChecks.laidMetH_plain _ _ _ (by kernel_rfl)] at hL
  have hG : GlobOk tab.G W (fun b => b < W.heap.size) := by
    exact globC (glob_ifc (g := 0) (ti := 73) (fun b hb => hb) (by kernel_rfl) (by kernel_rfl) Tryd.underlying73 hL.tail.tail.tail.tail.tail) (globC (glob_ifc (g := 1) (ti := 73) (fun b hb => hb) (by kernel_rfl) (by kernel_rfl) Tryd.underlying73 hL.tail.tail.tail.tail) (globC (glob_pow (fun b hb => hb) hL.tail.tail) (globN)))
  have hval : ∀ (j : Nat) t v, Tryd.f3.params[j]? = some t → args[j]? = some v → Value.okWide Tryd.prog W .any base t v := hval0
  have hW' := hW
  obtain ⟨p, q, hA0, hV, rfl, hfz, hnd⟩ := hW
  have hA : DataW.TrodAll enc Tryd.prog W 0 (fun _ => true) true Tryd.f3.params.toList args.toList ds p := hA0
  rw [Tryd.params3] at hA hval
  obtain ⟨v0, vs0, d0, ds0, p0, q0, hargs, rfl, rfl, h0, r0⟩ := trodAll_cons hA
  obtain ⟨v1, vs1, d1, ds1, p1, q1, rfl, rfl, rfl, h1, r1⟩ := trodAll_cons r0
  obtain ⟨v2, vs2, d2, ds2, p2, q2, rfl, rfl, rfl, h2, r2⟩ := trodAll_cons r1
  obtain ⟨rfl, rfl, rfl⟩ := trodAll_nil r2
  obtain rfl : args = #[v0, v1, v2] := by cases args; simp_all
  have lt0 : ∀ x ∈ p0, x.block < W.heap.size := by obtain ⟨m, hm⟩ := h0; exact DataW.trod_lt m _ _ _ hm
  obtain ⟨n0, pv0, ty0, tl0⟩ := arg_told (R := fun b => b < W.heap.size) (σ := fun _ => none) closed (fun b hb => hb) (by decide) h0
  obtain ⟨a0, len0, cap0, rfl⟩ := okWide_slice Tryd.underlying22 (hval 0 22 v0 rfl rfl)
  obtain ⟨x0, rfl, z0⟩ := fields_of ty0
  have V0 := told_sl tl0
  have lt1 : ∀ x ∈ p1, x.block < W.heap.size := by obtain ⟨m, hm⟩ := h1; exact DataW.trod_lt m _ _ _ hm
  obtain ⟨n1, pv1, ty1, tl1⟩ := arg_told (R := fun b => b < W.heap.size) (σ := fun _ => none) closed (fun b hb => hb) (by decide) h1
  obtain ⟨a1, rfl, _⟩ := okWide_struct Tryd.underlying25 (hval 1 25 v1 rfl rfl)
  obtain ⟨x1, rfl, z1⟩ := doc_of _ _ ty1
  have V1 := told_agg tl1
  have lt2 : ∀ x ∈ p2, x.block < W.heap.size := by obtain ⟨m, hm⟩ := h2; exact DataW.trod_lt m _ _ _ hm
  obtain ⟨n2, pv2, ty2, tl2⟩ := arg_told (R := fun b => b < W.heap.size) (σ := fun _ => none) closed (fun b hb => hb) (by decide) h2
  obtain ⟨a2, rfl⟩ := okWide_string Tryd.underlying9 (hval 2 9 v2 rfl rfl)
  obtain ⟨x2, rfl, z2⟩ := str_of ty2
  have V2 := told_str tl2 rfl
  clear hA0 hval0
  refine (law_calls (tab_sound Tryd.checked.mixed lib_ok (FnExactDocNum_R x0 x1 x2 z0.1 z0.2 z1 z2)) hG ?_).mono fun e W' ⟨he, bel⟩ => ?_
  · simp only [Ts]
    exact ⟨_, _, [], [], rfl, V0, ⟨_, _, [], [], rfl, V1, ⟨_, _, [], [], rfl, V2, ⟨rfl, rfl⟩, rfl⟩, rfl⟩, rfl⟩
  subst he
  obtain ⟨rfl, rfl⟩ := trodVars_nil hV
  exact ⟨_, rfl, _, _, _, [], _, _, hW', trodAll_mk1 (shut_bool Tryd.underlying4 _), (trodAll_cons_mk (Below.trod rLaid (by kernel_rfl) (of_decide_eq_true (by kernel_rfl)) h0 bel lt0) (trodAll_cons_mk (Below.trod rLaid (by kernel_rfl) (of_decide_eq_true (by kernel_rfl)) h1 bel lt1) (trodAll_cons_mk (Below.trod rLaid (by kernel_rfl) (of_decide_eq_true (by kernel_rfl)) h2 bel lt2) trodAll_mk0))), rfl, bel.frame _, fun h => by cases h⟩
theorem inPlace_is : Tryd.prog.inPlace 3 = Rows.fnExactDocNumRow.inPlace := by kernel_rfl
theorem unfollowed_is : Tryd.prog.unfollowed 3 = Rows.fnExactDocNumRow.unfollowed := by kernel_rfl
theorem recurses_is : Tryd.prog.recurses 3 = Rows.fnExactDocNumRow.recurses := by kernel_rfl
theorem named_is : Tryd.prog.varsNamed 3 = Rows.fnExactDocNumRow.named := by kernel_rfl
theorem facts : joinedFacts Tryd.prog 3 Tryd.f3 Rows.fnExactDocNumSpec Rows.fnExactDocNumRow = true := by
  unfold joinedFacts
  rw [inPlace_is, unfollowed_is, recurses_is, named_is, may_enter, lifts_final, make_cut, laid_out, maps_rowed, plain_keys, stops_heard]
  kernel_rfl
theorem holds : Rows.FnExactDocNumSaid :=
  OpenClaim.holds_of_wide 3 Tryd.f3 rfl rfl rfl rfl rfl rfl rfl ⟨rfl, rfl, rfl, rfl, rfl⟩ rfl rfl rfl rfl rfl (by kernel_rfl) Tryd.func3 facts
    (of_decide_eq_true (by kernel_rfl)) (by unfold Func.isWrapper; first | (rw [if_pos (by decide +kernel)]; kernel_rfl) | (rw [if_neg (by decide +kernel)]; exact ⟨rfl, rfl⟩))
    (fun os started H enc _ => lifted os started H enc)
theorem card : Rows.FnExactDocNumCardSaid :=
  Claim7.holds_tied_plain_at .later [] [.data, .data, .data, .data, .sentinel, .sentinel, .pinned] true (true, _) true
    holds (fun _ h => by cases h) (by kernel_rfl) (fun _ h => by cases h) fnExactDocNum_row_tie rfl ⟨rfl, rfl⟩ (by kernel_rfl) rfl
    (fun f fn hf hfn => by
      obtain rfl : f = 3 := Option.some.inj ((show Tryd.prog.funcNamed "loop.example/spandrel/laws.FnExactDocNum" = some 3 by kernel_rfl).symm.trans hf) |>.symm
      obtain rfl : fn = Tryd.f3 := (Option.some.inj (Tryd.func3.symm.trans hfn)).symm
      exact ⟨by kernel_rfl, fun j t ht => by
        rw [Tryd.params3] at ht
        match j, ht with
        | 0, ht =>
          obtain rfl : t = 22 := by simpa using ht.symm
          exact (show Tryd.prog.wantsStandIn 22 = false by kernel_rfl)
        | 1, ht =>
          obtain rfl : t = 25 := by simpa using ht.symm
          exact (show Tryd.prog.wantsStandIn 25 = false by kernel_rfl)
        | 2, ht =>
          obtain rfl : t = 9 := by simpa using ht.symm
          exact (show Tryd.prog.wantsStandIn 9 = false by kernel_rfl)
        | j + 3, ht => simp at ht⟩)
    (by kernel_rfl)
#print axioms card
end Go.Proofs.YtanbccpabgcmaaaDoor.RFnExactDocNum
namespace Go.Proofs.YtanbccpabgcmaaaDoor
/-- The tied card, under a short name, for the claim. -/
theorem fnExactDocNum_card : Rows.FnExactDocNumCardSaid := RFnExactDocNum.card
end Go.Proofs.YtanbccpabgcmaaaDoor
