/- FnQueryFits returns true for every input that the row admits: the row, and its card, whose listed variables are tied to the program's text. -/
import Derived.Test.YtfphffeonmjfcaaDoorT5
import Derived.Test.YtfphffeonmjfcaaDoorE30
import Derived.Test.YtfphffeonmjfcaaDoorRows
import Derived.Test.YtfphffeonmjfcaaDoorCards
import Derived.Test.YtfphffeonmjfcaaDoorTie
import Derived.WalkKit
import Derived.ProofKit
import Derived.OpenShut
import Derived.ShutString
import Derived.ChangeOld
import Derived.Below
import Derived.SizedLaws
import Derived.LaidLaws
import Derived.LaidMore
import Derived.ChangeVars
import Derived.WalkSmall
import Derived.MakeChecks
import Derived.Lay
import Derived.Stop.Joined
import Derived.SevenTiedAt
namespace Go.Proofs.YtfphffeonmjfcaaDoor.Fin
open Go.ChangeShapes Go.WideShapes Go.ChangeAt Go.RowKit
open Go.Proofs.YtfphffeonmjfcaaDoor.PVE
set_option linter.unusedVariables false
set_option linter.unusedSimpArgs false
theorem own : ownKnob Tryd.prog.godebug = none := by kernel_rfl
theorem laidOut : laidOutB Tryd.prog = true := by kernel_rfl
theorem gStops : Tryd.prog.globalNamed "loop.example/spandrel/impl.stops" = some 0 := by kernel_rfl
theorem tStops : (Tryd.prog.globals[0]?).map (·.type) = some 50 := by kernel_rfl
theorem c9 : Tryd.prog.cellsOf 9 = 1 := by kernel_rfl
theorem simple22 : simpleTy Tryd.prog 2 22 = true := by kernel_rfl
set_option maxRecDepth 100000 in
theorem byte_of {x : PV} (h : Ty Tryd.prog 1 5 x) : ∃ b : UInt8, x = bytePV b := by
  simp only [Ty, Tryd.underlying5] at h
  obtain ⟨i, rfl, hw⟩ := h
  simp [Lit.wf, IntKind.min, IntKind.max, IntKind.signed, IntKind.bits] at hw
  refine ⟨UInt8.ofNat i.toNat, ?_⟩
  simp only [bytePV]
  congr 1
  have : i.toNat < 256 := by omega
  rw [UInt8.toNat_ofNat_of_lt' this]
  omega
theorem glob_of {W : World} {R : Nat → Prop} (hR : ∀ b, b < W.heap.size → R b) {ps : List MemPlace} {l : List (String × DataW Unit)}
    (h : DataW.LaidVars Tryd.prog W (("loop.example/spandrel/impl.stops", Rows.laid_loop_example_spandrel_impl_stops) :: l) ps) : GlobOk tab.G W R := by
  obtain ⟨g, t, cs, fuel, p, q, hg, ht, hv, hd, _⟩ := h
  obtain rfl := Option.some.inj (gStops.symm.trans hg)
  obtain rfl := Option.some.inj (tStops.symm.trans ht)
  obtain ⟨v, hcs, h1, hV⟩ := trod_strs (σ := fun _ => none) hR (l := stops) Tryd.underlying50 Tryd.underlying9 c9 hd
  intro g cs' hG
  have hg0 : g = 0 ∧ cs' = [.sl (stops.map .str)] := by
    by_cases h0 : g = 0
    · subst h0
      exact ⟨rfl, (Option.some.inj hG).symm⟩
    · rw [show tab.G g = none from if_neg h0] at hG
      cases hG
  obtain ⟨rfl, rfl⟩ := hg0
  have hcell : W.cell? ⟨0, 0, none⟩ = some v := by
    have := World.var?_cell hg hv 0
    rw [Array.eq_one_of_toList hcs] at this
    simpa using this
  have hlt : 0 < W.heap.size := by
    cases hh : W.heap[0]? with
    | none => simp [World.cell?, hh] at hcell
    | some o => exact (Array.getElem?_eq_some_iff.1 hh).1
  simp only [V]
  refine ⟨trivial, ⟨0, 0, none⟩, [v], rfl, hR _ hlt, fun j u hj => ?_, ?_⟩
  · cases j with
    | zero => simp at hj; subst hj; exact hcell
    | succ j => simp at hj
  · simp only [Cs]
    exact ⟨v, [], [], [], rfl, h1, hV, ⟨rfl, rfl⟩, rfl⟩
theorem lib_ok : CallOk tab.P tab.E tab.L := callOk_of fun p hp xs a h => by
  have hp' : p ∈ [(126, libCount), (143, libIndex)] := hp
  simp only [List.mem_cons, List.not_mem_nil, or_false] at hp'
  rcases hp' with rfl | rfl
  · exact libCount_ok h
  · exact libIndex_ok h
set_option maxRecDepth 100000 in
theorem lifted (os : Os) (started : os.Started) (H : Type) (enc : TypeId × Value → H) :
    ReturnsInHanded {} Tryd.checked os 3 .any (fun w args => (Rows.fnQueryFitsSpec.pre enc Tryd.prog Tryd.f3 Rows.fnQueryFitsRow.domain false w args ∧ laidMetH Tryd.prog Rows.fnQueryFitsRow.laid w) ∧ sizedMet enc Tryd.prog Tryd.f3 (OpenSpec.ofChange Rows.fnQueryFitsSpec) false w args)
      (Rows.fnQueryFitsSpec.post enc Tryd.prog Tryd.f3 false true false false) := by
  refine returnsInHanded_of_change_and (C := Tryd.checked) (X := fun w _ => laidMetH Tryd.prog Rows.fnQueryFitsRow.laid w) (fun _ _ _ hh h => h.of_heap hh) own started (by kernel_rfl) Tryd.func3
    (ChangeSpec.witness_shaped (enc := enc) (C := Tryd.checked) (os := os) (X := fun w _ => laidMetH Tryd.prog Rows.fnQueryFitsRow.laid w) false (World.laidAll Tryd.prog os Rows.fnQueryFitsRow.laid) #[.slice none 0 0] 8 (World.laidAll_os _ _ _)
      (World.shaped_of_ZipB (by kernel_rfl) (by kernel_rfl)) (by kernel_rfl) (by kernel_rfl) (by kernel_rfl)
      (by rw [MakeChecks.laidMetH_plain _ _ _ (by kernel_rfl)]; exact laidMet_laidAll _ (by kernel_rfl) (by kernel_rfl))) ?_
  intro W base args ds gs before hval0 hW _ _ hL _
  rw [MakeChecks.laidMetH_plain _ _ _ (by kernel_rfl)] at hL
  obtain ⟨_, ⟨_, _, _, _, _, _, _, _, _, _, hrest, _⟩, _⟩ := hL
  have hG := glob_of (R := fun b => b < W.heap.size) (fun b hb => hb) hrest
  have hval : ∀ (j : Nat) t v, Tryd.f3.params[j]? = some t → args[j]? = some v → Value.okWide Tryd.prog W .any base t v := hval0
  have hW' := hW
  obtain ⟨p, q, hA0, hV, rfl, hfz, hnd⟩ := hW
  have hA : DataW.TrodAll enc Tryd.prog W 0 (fun _ => true) true Tryd.f3.params.toList args.toList ds p := hA0
  rw [Tryd.params3] at hA hval
  obtain ⟨v0, d0, rfl, rfl, h0⟩ := trodAll_one hA
  obtain ⟨g, t, cs, fuel, d1, p1, rfl, hg1, ht1, hv1, hd1, rfl⟩ := trodVars_one hV
  obtain rfl := Option.some.inj (gStops.symm.trans hg1)
  obtain rfl := Option.some.inj (tStops.symm.trans ht1)
  obtain ⟨a0, len0, cap0, rfl⟩ := okWide_slice Tryd.underlying22 (hval 0 22 v0 rfl rfl)
  have k0 := h0
  have lt0 : ∀ x ∈ p, x.block < W.heap.size := by obtain ⟨m, hm⟩ := k0; exact DataW.trod_lt m _ _ _ hm
  obtain ⟨es, hes, hty, hV0⟩ := arg_slice (R := fun b => b < W.heap.size) (σ := fun _ => none) (fun b hb => hb) simple22 Tryd.underlying22 h0
  obtain ⟨l, rfl⟩ := lift_list (f := bytePV) fun x hx => byte_of (hty x hx)
  clear hA0 hval0
  have hl : l.length ≤ 9223372036854775807 := by simpa [maxLen] using hes
  refine (law_calls (tab_sound Tryd.checked.mixed lib_ok (fnQueryFits_R l hl)) hG ?_).mono fun e W' ⟨he, bel⟩ => ?_
  · simp only [Ts]
    exact ⟨_, _, [], [], rfl, hV0, ⟨rfl, rfl⟩, rfl⟩
  subst he
  obtain ⟨v1, hc1, ho1⟩ : ∃ v1, cs = #[v1] ∧ v1.cells = #[v1] := by
    rcases DataW.trod_slice (show Tryd.prog.underlying 50 = _ from Tryd.underlying50) hd1 with ⟨hc, _⟩ | ⟨_, _, _, _, _, _, _, hc, _⟩ <;> exact ⟨_, Array.eq_one_of_toList hc, rfl⟩
  subst hc1
  have k1 : DataW.Trod enc Tryd.prog W 0 (fun _ => true) true 50 v1 d1 p1 := ⟨fuel, by rw [ho1]; exact hd1⟩
  have lt1 : ∀ x ∈ p1, x.block < W.heap.size := DataW.trod_lt fuel _ _ _ hd1
  have hs1 : W.heap.size ≠ 0 := by
    intro h0
    have := World.var?_cell hg1 hv1 0
    have hh : W.heap[0]? = none := Array.getElem?_eq_none (by omega)
    simp [World.cell?, hh] at this
  obtain ⟨fuel2, k2⟩ := Below.trod laidOut (by kernel_rfl) (of_decide_eq_true (by kernel_rfl)) k1 bel lt1
  rw [ho1] at k2
  exact ⟨_, rfl, _, _, _, [], _, _, hW', trodAll_mk1 (shut_bool Tryd.underlying4 _), trodAll_mk1 (Below.trod laidOut (by kernel_rfl) (of_decide_eq_true (by kernel_rfl)) k0 bel lt0), trodVars_mk1 gStops tStops (var?_below bel gStops (by omega) hv1) k2, bel.frame _, fun h => by cases h⟩
theorem holds : Rows.FnQueryFitsSaid :=
  OpenClaim.holds_of_wide 3 Tryd.f3 rfl rfl rfl rfl rfl rfl rfl ⟨rfl, rfl, rfl, rfl, rfl⟩ rfl rfl rfl rfl rfl (by kernel_rfl) Tryd.func3 (by kernel_rfl)
    (of_decide_eq_true (by kernel_rfl)) (by unfold Func.isWrapper; first | (rw [if_pos (by decide +kernel)]; kernel_rfl) | (rw [if_neg (by decide +kernel)]; exact ⟨rfl, rfl⟩))
    (fun os started H enc _ => lifted os started H enc)
theorem card : Rows.FnQueryFitsCardSaid :=
  Claim7.holds_tied_plain_at .later [] [.data, .widerDeep, .pinned] true (true, _) false
    holds (fun _ h => by cases h) (by kernel_rfl) (fun _ h => by cases h) fnQueryFits_row_tie rfl ⟨rfl, rfl⟩ (by kernel_rfl) rfl
    (fun f fn hf hfn => by
      obtain rfl : f = 3 := Option.some.inj ((show Tryd.prog.funcNamed "loop.example/spandrel/laws.FnQueryFits" = some 3 by kernel_rfl).symm.trans hf) |>.symm
      obtain rfl : fn = Tryd.f3 := (Option.some.inj (Tryd.func3.symm.trans hfn)).symm
      exact ⟨by kernel_rfl, fun j t ht => by
        rw [Tryd.params3] at ht
        have h3 : t = 22 := by
          rcases j with _ | j
          · simpa using ht.symm
          · simp at ht
        subst h3
        exact (show Tryd.prog.wantsStandIn 22 = false by kernel_rfl)⟩)
    (by kernel_rfl)
#print axioms card
end Go.Proofs.YtfphffeonmjfcaaDoor.Fin
namespace Go.Proofs.YtfphffeonmjfcaaDoor
/-- The tied card, under a short name, for the claim. -/
theorem fnQueryFits_card : Rows.FnQueryFitsCardSaid := Fin.card
end Go.Proofs.YtfphffeonmjfcaaDoor
