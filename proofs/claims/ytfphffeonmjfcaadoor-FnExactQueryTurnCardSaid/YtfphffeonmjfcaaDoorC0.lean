/- What the rows of this seat share: the arguments' types, the laid table, the library. -/
import Derived.Test.YtfphffeonmjfcaaDoorT7
import Derived.Test.YtfphffeonmjfcaaDoorE31
import Derived.Test.YtfphffeonmjfcaaDoorRows
import Derived.WalkKit
import Derived.ProofKit
import Derived.OpenShut
import Derived.ShutString
import Derived.ChangeOld
import Derived.Below
import Derived.SizedLaws
import Derived.LaidLaws
import Derived.LaidMore
import Derived.ChangeVars
import Derived.WalkSmall
import Derived.MakeChecks
import Derived.Lay
import Derived.Stop.Joined
namespace Go.Proofs.YtfphffeonmjfcaaDoor.PVE
open PV Query
open Go.ChangeShapes Go.WideShapes Go.ChangeAt Go.RowKit
set_option linter.unusedVariables false
set_option linter.unusedSimpArgs false
set_option maxRecDepth 100000
theorem rOwn : ownKnob Tryd.prog.godebug = none := by kernel_rfl
theorem rLaid : laidOutB Tryd.prog = true := by kernel_rfl
theorem gStops : Tryd.prog.globalNamed "loop.example/spandrel/impl.stops" = some 0 := by kernel_rfl
theorem tStops : (Tryd.prog.globals[0]?).map (·.type) = some 50 := by kernel_rfl
theorem cStr : Tryd.prog.cellsOf 9 = 1 := by kernel_rfl
theorem closed : closedTys Tryd.prog [43, 71, 35, 33, 9, 3, 22, 5] = true := by kernel_rfl
theorem byte_of {n : Nat} {x : PV} (h : Ty Tryd.prog n 5 x) : ∃ b : UInt8, x = bytePV b := by
  cases n with
  | zero => exact h.elim
  | succ n =>
    simp only [Ty, Tryd.underlying5] at h
    obtain ⟨i, rfl, hw⟩ := h
    simp [Lit.wf, IntKind.min, IntKind.max, IntKind.signed, IntKind.bits] at hw
    refine ⟨UInt8.ofNat i.toNat, ?_⟩
    simp only [bytePV]
    congr 1
    have : i.toNat < 256 := by omega
    rw [UInt8.toNat_ofNat_of_lt' this]
    omega
theorem str_of {n : Nat} {x : PV} (h : Ty Tryd.prog n 9 x) : ∃ s : Str, x = .str s ∧ s.length ≤ 9223372036854775807 := by
  cases n with
  | zero => exact h.elim
  | succ n =>
    simp only [Ty, Tryd.underlying9] at h
    obtain ⟨s, rfl, hs⟩ := h
    exact ⟨s, rfl, by simpa [maxLen] using hs⟩
theorem int_of {n : Nat} {x : PV} (h : Ty Tryd.prog n 3 x) : ∃ i : Int, x = .int .i64 i := by
  cases n with
  | zero => exact h.elim
  | succ n =>
    simp only [Ty, Tryd.underlying3] at h
    obtain ⟨i, rfl, _⟩ := h
    exact ⟨i, rfl⟩
theorem lift_with {α : Type} {f : α → PV} {Q : α → Prop} : ∀ {es : List PV}, (∀ x ∈ es, ∃ a, x = f a ∧ Q a) → ∃ l : List α, es = l.map f ∧ ∀ a ∈ l, Q a
  | [], _ => ⟨[], rfl, by simp⟩
  | x :: es, h => by
    obtain ⟨a, rfl, ha⟩ := h x (by simp)
    obtain ⟨l, rfl, hl⟩ := lift_with (es := es) fun y hy => h y (by simp [hy])
    exact ⟨a :: l, rfl, by simpa using ⟨ha, hl⟩⟩
theorem field_of {n : Nat} {x : PV} (h : Ty Tryd.prog n 71 x) : ∃ f : Field, x = f.pv ∧ f.name.length ≤ 9223372036854775807 := by
  cases n with
  | zero => exact h.elim
  | succ n =>
    simp only [Ty, Tryd.underlying71] at h
    obtain ⟨ps, rfl, hl, hf⟩ := h
    match ps, hl with
    | [p0, p1, p2], _ =>
      obtain ⟨s, rfl, hs⟩ := str_of (hf 0 _ p0 rfl rfl)
      obtain ⟨k, rfl⟩ := int_of (hf 1 _ p1 rfl rfl)
      obtain ⟨w, rfl⟩ := int_of (hf 2 _ p2 rfl rfl)
      exact ⟨⟨s, k, w⟩, rfl, hs⟩
theorem fields_of {n : Nat} {x : PV} (h : Ty Tryd.prog n 43 x) : ∃ l : List Field, x = .sl (l.map Field.pv) ∧ l.length ≤ 9223372036854775807 ∧ ∀ f ∈ l, f.name.length ≤ 9223372036854775807 := by
  cases n with
  | zero => exact h.elim
  | succ n =>
    simp only [Ty, Tryd.underlying43] at h
    obtain ⟨es, rfl, hl, hf⟩ := h
    obtain ⟨l, rfl, hq⟩ := lift_with (f := Field.pv) fun x hx => field_of (hf x hx)
    exact ⟨l, rfl, by simpa [maxLen] using hl, hq⟩
theorem query_of : ∀ (n : Nat) (x : PV), Ty Tryd.prog n 35 x → ∃ q : Query, x = q.pv ∧ q.Lm := by
  intro n
  induction n using Nat.strongRecOn with
  | _ n ih =>
    intro x h
    cases n with
    | zero => exact h.elim
    | succ n =>
      simp only [Ty, Tryd.underlying35] at h
      obtain ⟨ps, rfl, hl, hf⟩ := h
      match ps, hl with
      | [p0, p1, p2, p3, p4, p5], _ =>
        obtain ⟨k, rfl⟩ := int_of (hf 0 _ p0 rfl rfl)
        obtain ⟨f, rfl, hf1⟩ := str_of (hf 1 _ p1 rfl rfl)
        obtain ⟨t, rfl, ht⟩ := str_of (hf 2 _ p2 rfl rfl)
        obtain ⟨lo, rfl⟩ := int_of (hf 3 _ p3 rfl rfl)
        obtain ⟨hi, rfl⟩ := int_of (hf 4 _ p4 rfl rfl)
        have h5 := hf 5 _ p5 rfl rfl
        cases n with
        | zero => exact h5.elim
        | succ n =>
          simp only [Ty, Tryd.underlying33] at h5
          obtain ⟨es, rfl, hl, he⟩ := h5
          obtain ⟨l, rfl, hq⟩ := lift_with (f := Query.pv) fun x hx => ih n (by omega) x (he x hx)
          exact ⟨.mk k f t lo hi l, by rw [pv_eq]; rfl, ⟨_, hf1, ht, by simpa [maxLen, Query.parts] using hl, hq⟩⟩
section
variable {H : Type} {enc : TypeId × Value → H} {w : World} {R : Nat → Prop} {σ : Nat → Option Hd}
theorem told_sl {es : List PV} {v : Value} (h : Told w R σ (.sl es) [v]) : V w R σ (.sl es) v [] := by
  obtain ⟨_, hcs, _⟩ := h
  simp only [PV.cells, Cs] at hcs
  obtain ⟨u, us', f1, f2, hu, _, hV, _, hf⟩ := hcs
  simp only [List.cons.injEq] at hu
  obtain ⟨rfl, _⟩ := hu
  obtain ⟨rfl, rfl⟩ : f1 = [] ∧ f2 = [] := by simpa using hf.symm
  exact hV
theorem told_agg {cs : List PV} {a : Array Value} (h : Told w R σ (.agg cs) a.toList) : V w R σ (.agg cs) (.agg a) [] := by
  obtain ⟨_, hcs, _⟩ := h
  simp only [V]
  exact ⟨a.toList, by simp, hcs⟩
end
theorem glob_of {W : World} {R : Nat → Prop} (hR : ∀ b, b < W.heap.size → R b) {ps : List MemPlace} {l : List (String × DataW Unit)}
    (h : DataW.LaidVars Tryd.prog W (("loop.example/spandrel/impl.stops", Rows.laid_loop_example_spandrel_impl_stops) :: l) ps) : GlobOk tab.G W R := by
  obtain ⟨g, t, cs, fuel, p, q, hg, ht, hv, hd, _⟩ := h
  obtain rfl := Option.some.inj (gStops.symm.trans hg)
  obtain rfl := Option.some.inj (tStops.symm.trans ht)
  obtain ⟨v, hcs, h1, hV⟩ := trod_strs (σ := fun _ => none) hR (l := stops) Tryd.underlying50 Tryd.underlying9 cStr hd
  intro g cs' hG
  have hg0 : g = 0 ∧ cs' = [.sl (stops.map .str)] := by
    by_cases h0 : g = 0
    · subst h0
      exact ⟨rfl, (Option.some.inj hG).symm⟩
    · rw [show tab.G g = none from if_neg h0] at hG
      cases hG
  obtain ⟨rfl, rfl⟩ := hg0
  have hcell : W.cell? ⟨0, 0, none⟩ = some v := by
    have := World.var?_cell hg hv 0
    rw [Array.eq_one_of_toList hcs] at this
    simpa using this
  have hlt : 0 < W.heap.size := by
    cases hh : W.heap[0]? with
    | none => simp [World.cell?, hh] at hcell
    | some o => exact (Array.getElem?_eq_some_iff.1 hh).1
  simp only [V]
  refine ⟨trivial, ⟨0, 0, none⟩, [v], rfl, hR _ hlt, fun j u hj => ?_, ?_⟩
  · cases j with
    | zero => simp at hj; subst hj; exact hcell
    | succ j => simp at hj
  · simp only [Cs]
    exact ⟨v, [], [], [], rfl, h1, hV, ⟨rfl, rfl⟩, rfl⟩
theorem lib_ok : CallOk tab.P tab.E tab.L := callOk_of fun p hp xs a h => by
  have hp' : p ∈ [(126, libCount), (143, libIndex)] := hp
  simp only [List.mem_cons, List.not_mem_nil, or_false] at hp'
  rcases hp' with rfl | rfl
  · exact libCount_ok h
  · exact libIndex_ok h
/-- The listed variable reads behind the call as it did. -/
theorem stops_stay {H : Type} {enc : TypeId × Value → H} {W W' : World} {gs : List (DataW H)} {q : List MemPlace} (bel : Below W.heap.size W W') (hV : DataW.TrodVars enc Tryd.prog W (fun _ => true) ["loop.example/spandrel/impl.stops"] gs q) :
    ∃ d q', gs = [d] ∧ DataW.TrodVars enc Tryd.prog W' (fun b => decide (b < W.heap.size)) ["loop.example/spandrel/impl.stops"] [d] q' := by
  obtain ⟨g, t, cs, fuel, d1, p1, rfl, hg1, ht1, hv1, hd1, rfl⟩ := trodVars_one hV
  obtain rfl := Option.some.inj (gStops.symm.trans hg1)
  obtain rfl := Option.some.inj (tStops.symm.trans ht1)
  obtain ⟨v1, hc1, ho1⟩ : ∃ v1, cs = #[v1] ∧ v1.cells = #[v1] := by
    rcases DataW.trod_slice (show Tryd.prog.underlying 50 = _ from Tryd.underlying50) hd1 with ⟨hc, _⟩ | ⟨_, _, _, _, _, _, _, hc, _⟩ <;> exact ⟨_, Array.eq_one_of_toList hc, rfl⟩
  subst hc1
  have k1 : DataW.Trod enc Tryd.prog W 0 (fun _ => true) true 50 v1 d1 p1 := ⟨fuel, by rw [ho1]; exact hd1⟩
  have lt1 : ∀ x ∈ p1, x.block < W.heap.size := DataW.trod_lt fuel _ _ _ hd1
  have hs1 : W.heap.size ≠ 0 := by
    intro h0
    have := World.var?_cell hg1 hv1 0
    have hh : W.heap[0]? = none := Array.getElem?_eq_none (by omega)
    simp [World.cell?, hh] at this
  obtain ⟨fuel2, k2⟩ := Below.trod rLaid (by kernel_rfl) (of_decide_eq_true (by kernel_rfl)) k1 bel lt1
  rw [ho1] at k2
  exact ⟨d1, _, rfl, trodVars_mk1 gStops tStops (var?_below bel gStops (by omega) hv1) k2⟩
end Go.Proofs.YtfphffeonmjfcaaDoor.PVE
