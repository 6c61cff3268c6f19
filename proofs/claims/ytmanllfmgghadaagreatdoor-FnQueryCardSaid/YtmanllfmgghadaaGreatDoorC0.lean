/- What the rows of this seat share: the arguments' types, the laid table, the library. -/
import Derived.Test.YtmanllfmgghadaaGreatDoorT90
import Derived.Test.YtmanllfmgghadaaGreatDoorEG
import Derived.Stop.LaidErr
import Derived.Lib.LaidTab
import Derived.Test.YtmanllfmgghadaaGreatDoorRows
import Derived.WalkKit
import Derived.ProofKit
import Derived.OpenShut
import Derived.ShutString
import Derived.ChangeOld
import Derived.Below
import Derived.SizedLaws
import Derived.LaidLaws
import Derived.LaidMore
import Derived.ChangeVars
import Derived.WalkSmall
import Derived.MakeChecks
import Derived.Lay
import Derived.Stop.Joined
namespace Go.Proofs.YtmanllfmgghadaaGreatDoor.PVE
open PV Query
open Go.ChangeShapes Go.WideShapes Go.ChangeAt Go.RowKit
set_option linter.unusedVariables false
set_option linter.unusedSimpArgs false
set_option maxRecDepth 100000
theorem rOwn : ownKnob Tryz.prog.godebug = none := by kernel_rfl
theorem rLaid : laidOutB Tryz.prog = true := by kernel_rfl
theorem gStops : Tryz.prog.globalNamed "loop.example/spandrel/impl.stops" = some 0 := by kernel_rfl
theorem tStops : (Tryz.prog.globals[0]?).map (·.type) = some 29 := by kernel_rfl
theorem cStr : Tryz.prog.cellsOf 9 = 1 := by kernel_rfl
theorem closed : closedTys Tryz.prog [22, 149, 49, 47, 9, 3, 77, 5, 63, 61, 177, 26, 23, 152, 24, 156, 154, 231, 27] = true := by kernel_rfl
theorem byte_of {n : Nat} {x : PV} (h : Ty Tryz.prog n 5 x) : ∃ b : UInt8, x = bytePV b := by
  cases n with
  | zero => exact h.elim
  | succ n =>
    simp only [Ty, Tryz.underlying5] at h
    obtain ⟨i, rfl, hw⟩ := h
    simp [Lit.wf, IntKind.min, IntKind.max, IntKind.signed, IntKind.bits] at hw
    refine ⟨UInt8.ofNat i.toNat, ?_⟩
    simp only [bytePV]
    congr 1
    have : i.toNat < 256 := by omega
    rw [UInt8.toNat_ofNat_of_lt' this]
    omega
theorem str_of {n : Nat} {x : PV} (h : Ty Tryz.prog n 9 x) : ∃ s : Str, x = .str s ∧ s.length ≤ 9223372036854775807 := by
  cases n with
  | zero => exact h.elim
  | succ n =>
    simp only [Ty, Tryz.underlying9] at h
    obtain ⟨s, rfl, hs⟩ := h
    exact ⟨s, rfl, by simpa [maxLen] using hs⟩
theorem lift_with {α : Type} {f : α → PV} {Q : α → Prop} : ∀ {es : List PV}, (∀ x ∈ es, ∃ a, x = f a ∧ Q a) → ∃ l : List α, es = l.map f ∧ ∀ a ∈ l, Q a
  | [], _ => ⟨[], rfl, by simp⟩
  | x :: es, h => by
    obtain ⟨a, rfl, ha⟩ := h x (by simp)
    obtain ⟨l, rfl, hl⟩ := lift_with (es := es) fun y hy => h y (by simp [hy])
    exact ⟨a :: l, rfl, by simpa using ⟨ha, hl⟩⟩
section
variable {H : Type} {enc : TypeId × Value → H} {w : World} {R : Nat → Prop} {σ : Nat → Option Hd}
theorem told_sl {es : List PV} {v : Value} (h : Told w R σ (.sl es) [v]) : V w R σ (.sl es) v [] := by
  obtain ⟨_, hcs, _⟩ := h
  simp only [PV.cells, Cs] at hcs
  obtain ⟨u, us', f1, f2, hu, _, hV, _, hf⟩ := hcs
  simp only [List.cons.injEq] at hu
  obtain ⟨rfl, _⟩ := hu
  obtain ⟨rfl, rfl⟩ : f1 = [] ∧ f2 = [] := by simpa using hf.symm
  exact hV
end
theorem pro_one {w : World} {R : Nat → Prop} {P : Program} {g : Nat} {n : String} {v : Value} {pv : PV} (hR : ∀ b, b < w.heap.size → R b) (hg : P.globalNamed n = some g) (hv : w.var? P n = some #[v]) (h1 : v.oneCell' = true) (hV : V w R (fun _ => none) pv v []) :
    V w R (fun _ => none) (.pro [pv]) (.pointer (some ⟨g, 0, none⟩)) [] ∧ ∃ cur e fr, w.heap[g]? = some (.cells cur e fr) ∧ cur.size = [pv].length := by
  have hc := World.var?_cell hg hv 0
  unfold World.var? at hv
  rw [hg] at hv
  simp only [Option.bind_some] at hv
  split at hv
  · rename_i cur e fr hh
    obtain rfl := Option.some.inj hv
    have hlt : g < w.heap.size := (Array.getElem?_eq_some_iff.1 hh).1
    refine ⟨?_, _, _, _, hh, rfl⟩
    simp only [V]
    refine ⟨trivial, ⟨g, 0, none⟩, [v], rfl, hR _ hlt, fun j u hj => ?_, ?_⟩
    · cases j with
      | zero => simp at hj; subst hj; rw [add_lit']; simpa using hc
      | succ j => simp at hj
    · simp only [Cs]
      exact ⟨v, [], [], [], rfl, h1, hV, ⟨rfl, rfl⟩, rfl⟩
  · cases hv
theorem pro_tab {w : World} {R : Nat → Prop} {P : Program} {g : Nat} {n : String} {zs : List Int} (hR : ∀ b, b < w.heap.size → R b) (hg : P.globalNamed n = some g) (h : Lib.TabIs P w n .u64 zs) :
    V w R (fun _ => none) (.pro (zs.map (PV.int .u64))) (.pointer (some ⟨g, 0, none⟩)) [] ∧ ∃ cur e fr, w.heap[g]? = some (.cells cur e fr) ∧ cur.size = (zs.map (PV.int .u64)).length := by
  unfold Lib.TabIs at h
  have hc := fun j => World.var?_cell hg h j
  unfold World.var? at h
  rw [hg] at h
  simp only [Option.bind_some] at h
  split at h
  · rename_i cur e fr hh
    obtain rfl := Option.some.inj h
    have hlt : g < w.heap.size := (Array.getElem?_eq_some_iff.1 hh).1
    refine ⟨?_, _, _, _, hh, by simp⟩
    simp only [V]
    refine ⟨trivial, ⟨g, 0, none⟩, zs.map fun z => Value.int .u64 z, rfl, hR _ hlt, fun j u hj => ?_, ?_⟩
    · rw [add_lit', Nat.zero_add, hc j]
      simpa using hj
    · clear hc hh hlt
      induction zs with
      | nil => simp [Cs]
      | cons z zs ih =>
        simp only [List.map_cons, Cs, V]
        exact ⟨_, _, [], [], rfl, rfl, ⟨rfl, rfl⟩, ih (by simp), rfl⟩
  · cases h
theorem globN {w : World} {R : Nat → Prop} : GlobOk (fun _ => none) w R := fun _ _ h => by cases h
theorem globC {w : World} {R : Nat → Prop} {G : Nat → Option (List PV)} {k : Nat} {v : List PV} (hv : V w R (fun _ => none) (.pro v) (.pointer (some ⟨k, 0, none⟩)) [] ∧ ∃ cur e fr, w.heap[k]? = some (.cells cur e fr) ∧ cur.size = v.length) (hG : GlobOk G w R) : GlobOk (fun g => if g = k then some v else G g) w R := by
  intro g cs h
  simp only at h
  split at h
  · rename_i hk
    subst hk
    obtain rfl := Option.some.inj h
    exact hv
  · exact hG g cs h
theorem glob_stops {W : World} {R : Nat → Prop} (hR : ∀ b, b < W.heap.size → R b) {l : List (String × DataW Unit)}
    (h : laidMet Tryz.prog (("loop.example/spandrel/impl.stops", Rows.laid_loop_example_spandrel_impl_stops) :: l) W) :
    V W R (fun _ => none) (.pro [.sl (stops.map PV.str)]) (.pointer (some ⟨0, 0, none⟩)) [] ∧ ∃ cur e fr, W.heap[0]? = some (.cells cur e fr) ∧ cur.size = [PV.sl (stops.map PV.str)].length := by
  obtain ⟨_, ⟨g, t, cs, fuel, p, q, hg, ht, hv, hd, _⟩, _⟩ := h
  obtain rfl := Option.some.inj (gStops.symm.trans hg)
  obtain rfl := Option.some.inj (tStops.symm.trans ht)
  obtain ⟨v, hcs, h1, hV⟩ := trod_strs (σ := fun _ => none) hR (l := stops) Tryz.underlying29 Tryz.underlying9 cStr hd
  rw [Array.eq_one_of_toList hcs] at hv
  exact pro_one hR gStops hv h1 hV
theorem glob_pow {W : World} {R : Nat → Prop} (hR : ∀ b, b < W.heap.size → R b) {l : List (String × DataW Unit)}
    (h : laidMet Tryz.prog (("internal/strconv.uint64pow10", Rows.laid_internal_strconv_uint64pow10) :: l) W) :
    V W R (fun _ => none) (.pro (Lib.pow10Tab.map (PV.int .u64))) (.pointer (some ⟨4, 0, none⟩)) [] ∧ ∃ cur e fr, W.heap[4]? = some (.cells cur e fr) ∧ cur.size = (Lib.pow10Tab.map (PV.int .u64)).length :=
  pro_tab hR (by kernel_rfl) (Lib.tabIs_of_head (g := 4) (t := 299) (e := 266) (n := 20) (by kernel_rfl) (by kernel_rfl) Tryz.underlying299 Tryz.underlying266 (by kernel_rfl) (by kernel_rfl) h)
theorem glob_ifc {W : World} {R : Nat → Prop} (hR : ∀ b, b < W.heap.size → R b) {n : String} {nm : String} {x : DataW Unit} {l : List (String × DataW Unit)} {g ti : Nat} {ms : Array (String × TypeId)}
    (hg : Tryz.prog.globalNamed n = some g) (ht : (Tryz.prog.globals[g]?).map (·.type) = some ti) (hi : Tryz.prog.underlying ti = some (.interface ms)) (h : laidMet Tryz.prog ((n, .iface nm x) :: l) W) :
    V W R (fun _ => none) (.pro [.ifc]) (.pointer (some ⟨g, 0, none⟩)) [] ∧ ∃ cur e fr, W.heap[g]? = some (.cells cur e fr) ∧ cur.size = [PV.ifc].length := by
  obtain ⟨_, ⟨g', t, cs, fuel, p, q, hg', ht', hv, hd, _⟩, _⟩ := h
  obtain rfl := Option.some.inj (hg.symm.trans hg')
  obtain rfl := Option.some.inj (ht.symm.trans ht')
  obtain ⟨f1, u, v, hcs, hn, _⟩ := iface_of_trod hi hd
  rw [Array.eq_one_of_toList hcs] at hv
  exact pro_one hR hg hv rfl (by simp only [V]; exact ⟨⟨_, _, rfl⟩, trivial⟩)
theorem told_str {w : World} {R : Nat → Prop} {σ : Nat → Option Hd} {s : Str} {v : Value} {cs : List Value} (h : Told w R σ (.str s) cs) (hc : cs = [v]) : V w R σ (.str s) v [] := by
  subst hc
  obtain ⟨_, hcs, _⟩ := h
  simp only [PV.cells, Cs] at hcs
  obtain ⟨u, us', f1, f2, hu, _, hV, _, hf⟩ := hcs
  simp only [List.cons.injEq] at hu
  obtain ⟨rfl, _⟩ := hu
  obtain ⟨rfl, rfl⟩ : f1 = [] ∧ f2 = [] := by simpa using hf.symm
  exact hV
theorem u8s_of {n : Nat} {x : PV} (h : Ty Tryz.prog n 77 x) : ∃ l : List UInt8, x = .sl (l.map bytePV) ∧ l.length ≤ 9223372036854775807 := by
  cases n with
  | zero => exact h.elim
  | succ n =>
    simp only [Ty, Tryz.underlying77] at h
    obtain ⟨es, rfl, hl, hf⟩ := h
    obtain ⟨l, rfl, _⟩ := lift_with (f := bytePV) (Q := fun _ => True) fun x hx => by
      obtain ⟨b, rfl⟩ := byte_of (hf x hx)
      exact ⟨b, rfl, trivial⟩
    exact ⟨l, rfl, by simpa [maxLen] using hl⟩
theorem lib_ok : CallOk tab.P tab.E tab.L := callOk_of fun p hp xs a h => by
  have hp' : p ∈ [(149, libNumber), (165, libItoa), (166, libJoin), (277, libCount), (279, libIndex)] := hp
  simp only [List.mem_cons, List.not_mem_nil, or_false] at hp'
  rcases hp' with rfl | rfl | rfl | rfl | rfl
  · exact libNumber_ok (g := 4) (by kernel_rfl) rfl rfl rfl h
  · exact libItoa_ok (g := 4) (by kernel_rfl) rfl h
  · exact libJoin_ok h
  · exact libCount_ok h
  · exact libIndex_ok h
theorem stops_stay {H : Type} {enc : TypeId × Value → H} {W W' : World} {gs : List (DataW H)} {q : List MemPlace} (bel : Below W.heap.size W W') (hV : DataW.TrodVars enc Tryz.prog W (fun _ => true) ["loop.example/spandrel/impl.stops"] gs q) :
    ∃ d q', gs = [d] ∧ DataW.TrodVars enc Tryz.prog W' (fun b => decide (b < W.heap.size)) ["loop.example/spandrel/impl.stops"] [d] q' := by
  obtain ⟨g, t, cs, fuel, d1, p1, rfl, hg1, ht1, hv1, hd1, rfl⟩ := trodVars_one hV
  obtain rfl := Option.some.inj (gStops.symm.trans hg1)
  obtain rfl := Option.some.inj (tStops.symm.trans ht1)
  obtain ⟨v1, hc1, ho1⟩ : ∃ v1, cs = #[v1] ∧ v1.cells = #[v1] := by
    rcases DataW.trod_slice (show Tryz.prog.underlying 29 = _ from Tryz.underlying29) hd1 with ⟨hc, _⟩ | ⟨_, _, _, _, _, _, _, hc, _⟩ <;> exact ⟨_, Array.eq_one_of_toList hc, rfl⟩
  subst hc1
  have k1 : DataW.Trod enc Tryz.prog W 0 (fun _ => true) true 29 v1 d1 p1 := ⟨fuel, by rw [ho1]; exact hd1⟩
  have lt1 : ∀ x ∈ p1, x.block < W.heap.size := DataW.trod_lt fuel _ _ _ hd1
  have hs1 : W.heap.size ≠ 0 := by
    intro h0
    have := World.var?_cell hg1 hv1 0
    have hh : W.heap[0]? = none := Array.getElem?_eq_none (by omega)
    simp [World.cell?, hh] at this
  obtain ⟨fuel2, k2⟩ := Below.trod rLaid (by kernel_rfl) (of_decide_eq_true (by kernel_rfl)) k1 bel lt1
  rw [ho1] at k2
  exact ⟨d1, _, rfl, trodVars_mk1 gStops tStops (var?_below bel gStops (by omega) hv1) k2⟩
theorem toList_lit {s : String} {l : List Char} (h : s = String.ofList l) : s.toList = l := by rw [h, String.toList_ofList]
theorem io_words : behindMainWord (wordsSigns Tryz.prog.initOrder.toList) = [[Char.ofNat 99, Char.ofNat 117, Char.ofNat 116], [Char.ofNat 97, Char.ofNat 116], [Char.ofNat 108, Char.ofNat 111, Char.ofNat 111, Char.ofNat 112, Char.ofNat 46, Char.ofNat 101, Char.ofNat 120, Char.ofNat 97, Char.ofNat 109, Char.ofNat 112, Char.ofNat 108, Char.ofNat 101, Char.ofNat 47, Char.ofNat 115, Char.ofNat 112, Char.ofNat 97, Char.ofNat 110, Char.ofNat 100, Char.ofNat 114, Char.ofNat 101, Char.ofNat 108, Char.ofNat 47, Char.ofNat 108, Char.ofNat 97, Char.ofNat 119, Char.ofNat 115, Char.ofNat 46, Char.ofNat 70, Char.ofNat 110, Char.ofNat 69, Char.ofNat 120, Char.ofNat 97, Char.ofNat 99, Char.ofNat 116, Char.ofNat 75, Char.ofNat 101, Char.ofNat 121, Char.ofNat 115], [Char.ofNat 108, Char.ofNat 111, Char.ofNat 111, Char.ofNat 112, Char.ofNat 46, Char.ofNat 101, Char.ofNat 120, Char.ofNat 97, Char.ofNat 109, Char.ofNat 112, Char.ofNat 108, Char.ofNat 101, Char.ofNat 47, Char.ofNat 115, Char.ofNat 112, Char.ofNat 97, Char.ofNat 110, Char.ofNat 100, Char.ofNat 114, Char.ofNat 101, Char.ofNat 108, Char.ofNat 47, Char.ofNat 108, Char.ofNat 97, Char.ofNat 119, Char.ofNat 115, Char.ofNat 46, Char.ofNat 70, Char.ofNat 110, Char.ofNat 69, Char.ofNat 120, Char.ofNat 97, Char.ofNat 99, Char.ofNat 116, Char.ofNat 65, Char.ofNat 108, Char.ofNat 105, Char.ofNat 107, Char.ofNat 101], [Char.ofNat 108, Char.ofNat 111, Char.ofNat 111, Char.ofNat 112, Char.ofNat 46, Char.ofNat 101, Char.ofNat 120, Char.ofNat 97, Char.ofNat 109, Char.ofNat 112, Char.ofNat 108, Char.ofNat 101, Char.ofNat 47, Char.ofNat 115, Char.ofNat 112, Char.ofNat 97, Char.ofNat 110, Char.ofNat 100, Char.ofNat 114, Char.ofNat 101, Char.ofNat 108, Char.ofNat 47, Char.ofNat 108, Char.ofNat 97, Char.ofNat 119, Char.ofNat 115, Char.ofNat 46, Char.ofNat 70, Char.ofNat 110, Char.ofNat 69, Char.ofNat 120, Char.ofNat 97, Char.ofNat 99, Char.ofNat 116, Char.ofNat 70, Char.ofNat 105, Char.ofNat 110, Char.ofNat 100], [Char.ofNat 108, Char.ofNat 111, Char.ofNat 111, Char.ofNat 112, Char.ofNat 46, Char.ofNat 101, Char.ofNat 120, Char.ofNat 97, Char.ofNat 109, Char.ofNat 112, Char.ofNat 108, Char.ofNat 101, Char.ofNat 47, Char.ofNat 115, Char.ofNat 112, Char.ofNat 97, Char.ofNat 110, Char.ofNat 100, Char.ofNat 114, Char.ofNat 101, Char.ofNat 108, Char.ofNat 47, Char.ofNat 108, Char.ofNat 97, Char.ofNat 119, Char.ofNat 115, Char.ofNat 46, Char.ofNat 70, Char.ofNat 110, Char.ofNat 69, Char.ofNat 120, Char.ofNat 97, Char.ofNat 99, Char.ofNat 116, Char.ofNat 73, Char.ofNat 110, Char.ofNat 100, Char.ofNat 101, Char.ofNat 120, Char.ofNat 68, Char.ofNat 114, Char.ofNat 111, Char.ofNat 112], [Char.ofNat 108, Char.ofNat 111, Char.ofNat 111, Char.ofNat 112, Char.ofNat 46, Char.ofNat 101, Char.ofNat 120, Char.ofNat 97, Char.ofNat 109, Char.ofNat 112, Char.ofNat 108, Char.ofNat 101, Char.ofNat 47, Char.ofNat 115, Char.ofNat 112, Char.ofNat 97, Char.ofNat 110, Char.ofNat 100, Char.ofNat 114, Char.ofNat 101, Char.ofNat 108, Char.ofNat 47, Char.ofNat 108, Char.ofNat 97, Char.ofNat 119, Char.ofNat 115, Char.ofNat 46, Char.ofNat 70, Char.ofNat 110, Char.ofNat 69, Char.ofNat 120, Char.ofNat 97, Char.ofNat 99, Char.ofNat 116, Char.ofNat 73, Char.ofNat 110, Char.ofNat 100, Char.ofNat 101, Char.ofNat 120, Char.ofNat 80, Char.ofNat 117, Char.ofNat 116], [Char.ofNat 108, Char.ofNat 111, Char.ofNat 111, Char.ofNat 112, Char.ofNat 46, Char.ofNat 101, Char.ofNat 120, Char.ofNat 97, Char.ofNat 109, Char.ofNat 112, Char.ofNat 108, Char.ofNat 101, Char.ofNat 47, Char.ofNat 115, Char.ofNat 112, Char.ofNat 97, Char.ofNat 110, Char.ofNat 100, Char.ofNat 114, Char.ofNat 101, Char.ofNat 108, Char.ofNat 47, Char.ofNat 108, Char.ofNat 97, Char.ofNat 119, Char.ofNat 115, Char.ofNat 46, Char.ofNat 70, Char.ofNat 110, Char.ofNat 69, Char.ofNat 120, Char.ofNat 97, Char.ofNat 99, Char.ofNat 116, Char.ofNat 81, Char.ofNat 117, Char.ofNat 101, Char.ofNat 114, Char.ofNat 121, Char.ofNat 71, Char.ofNat 101, Char.ofNat 116], [Char.ofNat 108, Char.ofNat 111, Char.ofNat 111, Char.ofNat 112, Char.ofNat 46, Char.ofNat 101, Char.ofNat 120, Char.ofNat 97, Char.ofNat 109, Char.ofNat 112, Char.ofNat 108, Char.ofNat 101, Char.ofNat 47, Char.ofNat 115, Char.ofNat 112, Char.ofNat 97, Char.ofNat 110, Char.ofNat 100, Char.ofNat 114, Char.ofNat 101, Char.ofNat 108, Char.ofNat 47, Char.ofNat 108, Char.ofNat 97, Char.ofNat 119, Char.ofNat 115, Char.ofNat 46, Char.ofNat 70, Char.ofNat 110, Char.ofNat 81, Char.ofNat 117, Char.ofNat 101, Char.ofNat 114, Char.ofNat 121]] := by rw [toList_lit (s := Tryz.prog.initOrder) (l := [Char.ofNat 104, Char.ofNat 97, Char.ofNat 114, Char.ofNat 110, Char.ofNat 101, Char.ofNat 115, Char.ofNat 115, Char.ofNat 32, Char.ofNat 101, Char.ofNat 54, Char.ofNat 55, Char.ofNat 52, Char.ofNat 48, Char.ofNat 54, Char.ofNat 49, Char.ofNat 52, Char.ofNat 55, Char.ofNat 49, Char.ofNat 54, Char.ofNat 50, Char.ofNat 99, Char.ofNat 53, Char.ofNat 100, Char.ofNat 101, Char.ofNat 49, Char.ofNat 48, Char.ofNat 50, Char.ofNat 100, Char.ofNat 51, Char.ofNat 98, Char.ofNat 99, Char.ofNat 56, Char.ofNat 98, Char.ofNat 48, Char.ofNat 53, Char.ofNat 51, Char.ofNat 54, Char.ofNat 55, Char.ofNat 99, Char.ofNat 56, Char.ofNat 98, Char.ofNat 49, Char.ofNat 97, Char.ofNat 56, Char.ofNat 99, Char.ofNat 100, Char.ofNat 55, Char.ofNat 56, Char.ofNat 55, Char.ofNat 54, Char.ofNat 51, Char.ofNat 99, Char.ofNat 55, Char.ofNat 52, Char.ofNat 97, Char.ofNat 57, Char.ofNat 55, Char.ofNat 57, Char.ofNat 101, Char.ofNat 97, Char.ofNat 49, Char.ofNat 51, Char.ofNat 53, Char.ofNat 52, Char.ofNat 49, Char.ofNat 52, Char.ofNat 54, Char.ofNat 52, Char.ofNat 54, Char.ofNat 101, Char.ofNat 50, Char.ofNat 54, Char.ofNat 32, Char.ofNat 99, Char.ofNat 117, Char.ofNat 116, Char.ofNat 32, Char.ofNat 97, Char.ofNat 116, Char.ofNat 32, Char.ofNat 108, Char.ofNat 111, Char.ofNat 111, Char.ofNat 112, Char.ofNat 46, Char.ofNat 101, Char.ofNat 120, Char.ofNat 97, Char.ofNat 109, Char.ofNat 112, Char.ofNat 108, Char.ofNat 101, Char.ofNat 47, Char.ofNat 115, Char.ofNat 112, Char.ofNat 97, Char.ofNat 110, Char.ofNat 100, Char.ofNat 114, Char.ofNat 101, Char.ofNat 108, Char.ofNat 47, Char.ofNat 108, Char.ofNat 97, Char.ofNat 119, Char.ofNat 115, Char.ofNat 46, Char.ofNat 70, Char.ofNat 110, Char.ofNat 69, Char.ofNat 120, Char.ofNat 97, Char.ofNat 99, Char.ofNat 116, Char.ofNat 75, Char.ofNat 101, Char.ofNat 121, Char.ofNat 115, Char.ofNat 32, Char.ofNat 108, Char.ofNat 111, Char.ofNat 111, Char.ofNat 112, Char.ofNat 46, Char.ofNat 101, Char.ofNat 120, Char.ofNat 97, Char.ofNat 109, Char.ofNat 112, Char.ofNat 108, Char.ofNat 101, Char.ofNat 47, Char.ofNat 115, Char.ofNat 112, Char.ofNat 97, Char.ofNat 110, Char.ofNat 100, Char.ofNat 114, Char.ofNat 101, Char.ofNat 108, Char.ofNat 47, Char.ofNat 108, Char.ofNat 97, Char.ofNat 119, Char.ofNat 115, Char.ofNat 46, Char.ofNat 70, Char.ofNat 110, Char.ofNat 69, Char.ofNat 120, Char.ofNat 97, Char.ofNat 99, Char.ofNat 116, Char.ofNat 65, Char.ofNat 108, Char.ofNat 105, Char.ofNat 107, Char.ofNat 101, Char.ofNat 32, Char.ofNat 108, Char.ofNat 111, Char.ofNat 111, Char.ofNat 112, Char.ofNat 46, Char.ofNat 101, Char.ofNat 120, Char.ofNat 97, Char.ofNat 109, Char.ofNat 112, Char.ofNat 108, Char.ofNat 101, Char.ofNat 47, Char.ofNat 115, Char.ofNat 112, Char.ofNat 97, Char.ofNat 110, Char.ofNat 100, Char.ofNat 114, Char.ofNat 101, Char.ofNat 108, Char.ofNat 47, Char.ofNat 108, Char.ofNat 97, Char.ofNat 119, Char.ofNat 115, Char.ofNat 46, Char.ofNat 70, Char.ofNat 110, Char.ofNat 69, Char.ofNat 120, Char.ofNat 97, Char.ofNat 99, Char.ofNat 116, Char.ofNat 70, Char.ofNat 105, Char.ofNat 110, Char.ofNat 100, Char.ofNat 32, Char.ofNat 108, Char.ofNat 111, Char.ofNat 111, Char.ofNat 112, Char.ofNat 46, Char.ofNat 101, Char.ofNat 120, Char.ofNat 97, Char.ofNat 109, Char.ofNat 112, Char.ofNat 108, Char.ofNat 101, Char.ofNat 47, Char.ofNat 115, Char.ofNat 112, Char.ofNat 97, Char.ofNat 110, Char.ofNat 100, Char.ofNat 114, Char.ofNat 101, Char.ofNat 108, Char.ofNat 47, Char.ofNat 108, Char.ofNat 97, Char.ofNat 119, Char.ofNat 115, Char.ofNat 46, Char.ofNat 70, Char.ofNat 110, Char.ofNat 69, Char.ofNat 120, Char.ofNat 97, Char.ofNat 99, Char.ofNat 116, Char.ofNat 73, Char.ofNat 110, Char.ofNat 100, Char.ofNat 101, Char.ofNat 120, Char.ofNat 68, Char.ofNat 114, Char.ofNat 111, Char.ofNat 112, Char.ofNat 32, Char.ofNat 108, Char.ofNat 111, Char.ofNat 111, Char.ofNat 112, Char.ofNat 46, Char.ofNat 101, Char.ofNat 120, Char.ofNat 97, Char.ofNat 109, Char.ofNat 112, Char.ofNat 108, Char.ofNat 101, Char.ofNat 47, Char.ofNat 115, Char.ofNat 112, Char.ofNat 97, Char.ofNat 110, Char.ofNat 100, Char.ofNat 114, Char.ofNat 101, Char.ofNat 108, Char.ofNat 47, Char.ofNat 108, Char.ofNat 97, Char.ofNat 119, Char.ofNat 115, Char.ofNat 46, Char.ofNat 70, Char.ofNat 110, Char.ofNat 69, Char.ofNat 120, Char.ofNat 97, Char.ofNat 99, Char.ofNat 116, Char.ofNat 73, Char.ofNat 110, Char.ofNat 100, Char.ofNat 101, Char.ofNat 120, Char.ofNat 80, Char.ofNat 117, Char.ofNat 116, Char.ofNat 32, Char.ofNat 108, Char.ofNat 111, Char.ofNat 111, Char.ofNat 112, Char.ofNat 46, Char.ofNat 101, Char.ofNat 120, Char.ofNat 97, Char.ofNat 109, Char.ofNat 112, Char.ofNat 108, Char.ofNat 101, Char.ofNat 47, Char.ofNat 115, Char.ofNat 112, Char.ofNat 97, Char.ofNat 110, Char.ofNat 100, Char.ofNat 114, Char.ofNat 101, Char.ofNat 108, Char.ofNat 47, Char.ofNat 108, Char.ofNat 97, Char.ofNat 119, Char.ofNat 115, Char.ofNat 46, Char.ofNat 70, Char.ofNat 110, Char.ofNat 69, Char.ofNat 120, Char.ofNat 97, Char.ofNat 99, Char.ofNat 116, Char.ofNat 81, Char.ofNat 117, Char.ofNat 101, Char.ofNat 114, Char.ofNat 121, Char.ofNat 71, Char.ofNat 101, Char.ofNat 116, Char.ofNat 32, Char.ofNat 108, Char.ofNat 111, Char.ofNat 111, Char.ofNat 112, Char.ofNat 46, Char.ofNat 101, Char.ofNat 120, Char.ofNat 97, Char.ofNat 109, Char.ofNat 112, Char.ofNat 108, Char.ofNat 101, Char.ofNat 47, Char.ofNat 115, Char.ofNat 112, Char.ofNat 97, Char.ofNat 110, Char.ofNat 100, Char.ofNat 114, Char.ofNat 101, Char.ofNat 108, Char.ofNat 47, Char.ofNat 108, Char.ofNat 97, Char.ofNat 119, Char.ofNat 115, Char.ofNat 46, Char.ofNat 70, Char.ofNat 110, Char.ofNat 81, Char.ofNat 117, Char.ofNat 101, Char.ofNat 114, Char.ofNat 121]) (by kernel_rfl)]; kernel_rfl
theorem io_lifts : stripLifts liftWords [[Char.ofNat 99, Char.ofNat 117, Char.ofNat 116], [Char.ofNat 97, Char.ofNat 116], [Char.ofNat 108, Char.ofNat 111, Char.ofNat 111, Char.ofNat 112, Char.ofNat 46, Char.ofNat 101, Char.ofNat 120, Char.ofNat 97, Char.ofNat 109, Char.ofNat 112, Char.ofNat 108, Char.ofNat 101, Char.ofNat 47, Char.ofNat 115, Char.ofNat 112, Char.ofNat 97, Char.ofNat 110, Char.ofNat 100, Char.ofNat 114, Char.ofNat 101, Char.ofNat 108, Char.ofNat 47, Char.ofNat 108, Char.ofNat 97, Char.ofNat 119, Char.ofNat 115, Char.ofNat 46, Char.ofNat 70, Char.ofNat 110, Char.ofNat 69, Char.ofNat 120, Char.ofNat 97, Char.ofNat 99, Char.ofNat 116, Char.ofNat 75, Char.ofNat 101, Char.ofNat 121, Char.ofNat 115], [Char.ofNat 108, Char.ofNat 111, Char.ofNat 111, Char.ofNat 112, Char.ofNat 46, Char.ofNat 101, Char.ofNat 120, Char.ofNat 97, Char.ofNat 109, Char.ofNat 112, Char.ofNat 108, Char.ofNat 101, Char.ofNat 47, Char.ofNat 115, Char.ofNat 112, Char.ofNat 97, Char.ofNat 110, Char.ofNat 100, Char.ofNat 114, Char.ofNat 101, Char.ofNat 108, Char.ofNat 47, Char.ofNat 108, Char.ofNat 97, Char.ofNat 119, Char.ofNat 115, Char.ofNat 46, Char.ofNat 70, Char.ofNat 110, Char.ofNat 69, Char.ofNat 120, Char.ofNat 97, Char.ofNat 99, Char.ofNat 116, Char.ofNat 65, Char.ofNat 108, Char.ofNat 105, Char.ofNat 107, Char.ofNat 101], [Char.ofNat 108, Char.ofNat 111, Char.ofNat 111, Char.ofNat 112, Char.ofNat 46, Char.ofNat 101, Char.ofNat 120, Char.ofNat 97, Char.ofNat 109, Char.ofNat 112, Char.ofNat 108, Char.ofNat 101, Char.ofNat 47, Char.ofNat 115, Char.ofNat 112, Char.ofNat 97, Char.ofNat 110, Char.ofNat 100, Char.ofNat 114, Char.ofNat 101, Char.ofNat 108, Char.ofNat 47, Char.ofNat 108, Char.ofNat 97, Char.ofNat 119, Char.ofNat 115, Char.ofNat 46, Char.ofNat 70, Char.ofNat 110, Char.ofNat 69, Char.ofNat 120, Char.ofNat 97, Char.ofNat 99, Char.ofNat 116, Char.ofNat 70, Char.ofNat 105, Char.ofNat 110, Char.ofNat 100], [Char.ofNat 108, Char.ofNat 111, Char.ofNat 111, Char.ofNat 112, Char.ofNat 46, Char.ofNat 101, Char.ofNat 120, Char.ofNat 97, Char.ofNat 109, Char.ofNat 112, Char.ofNat 108, Char.ofNat 101, Char.ofNat 47, Char.ofNat 115, Char.ofNat 112, Char.ofNat 97, Char.ofNat 110, Char.ofNat 100, Char.ofNat 114, Char.ofNat 101, Char.ofNat 108, Char.ofNat 47, Char.ofNat 108, Char.ofNat 97, Char.ofNat 119, Char.ofNat 115, Char.ofNat 46, Char.ofNat 70, Char.ofNat 110, Char.ofNat 69, Char.ofNat 120, Char.ofNat 97, Char.ofNat 99, Char.ofNat 116, Char.ofNat 73, Char.ofNat 110, Char.ofNat 100, Char.ofNat 101, Char.ofNat 120, Char.ofNat 68, Char.ofNat 114, Char.ofNat 111, Char.ofNat 112], [Char.ofNat 108, Char.ofNat 111, Char.ofNat 111, Char.ofNat 112, Char.ofNat 46, Char.ofNat 101, Char.ofNat 120, Char.ofNat 97, Char.ofNat 109, Char.ofNat 112, Char.ofNat 108, Char.ofNat 101, Char.ofNat 47, Char.ofNat 115, Char.ofNat 112, Char.ofNat 97, Char.ofNat 110, Char.ofNat 100, Char.ofNat 114, Char.ofNat 101, Char.ofNat 108, Char.ofNat 47, Char.ofNat 108, Char.ofNat 97, Char.ofNat 119, Char.ofNat 115, Char.ofNat 46, Char.ofNat 70, Char.ofNat 110, Char.ofNat 69, Char.ofNat 120, Char.ofNat 97, Char.ofNat 99, Char.ofNat 116, Char.ofNat 73, Char.ofNat 110, Char.ofNat 100, Char.ofNat 101, Char.ofNat 120, Char.ofNat 80, Char.ofNat 117, Char.ofNat 116], [Char.ofNat 108, Char.ofNat 111, Char.ofNat 111, Char.ofNat 112, Char.ofNat 46, Char.ofNat 101, Char.ofNat 120, Char.ofNat 97, Char.ofNat 109, Char.ofNat 112, Char.ofNat 108, Char.ofNat 101, Char.ofNat 47, Char.ofNat 115, Char.ofNat 112, Char.ofNat 97, Char.ofNat 110, Char.ofNat 100, Char.ofNat 114, Char.ofNat 101, Char.ofNat 108, Char.ofNat 47, Char.ofNat 108, Char.ofNat 97, Char.ofNat 119, Char.ofNat 115, Char.ofNat 46, Char.ofNat 70, Char.ofNat 110, Char.ofNat 69, Char.ofNat 120, Char.ofNat 97, Char.ofNat 99, Char.ofNat 116, Char.ofNat 81, Char.ofNat 117, Char.ofNat 101, Char.ofNat 114, Char.ofNat 121, Char.ofNat 71, Char.ofNat 101, Char.ofNat 116], [Char.ofNat 108, Char.ofNat 111, Char.ofNat 111, Char.ofNat 112, Char.ofNat 46, Char.ofNat 101, Char.ofNat 120, Char.ofNat 97, Char.ofNat 109, Char.ofNat 112, Char.ofNat 108, Char.ofNat 101, Char.ofNat 47, Char.ofNat 115, Char.ofNat 112, Char.ofNat 97, Char.ofNat 110, Char.ofNat 100, Char.ofNat 114, Char.ofNat 101, Char.ofNat 108, Char.ofNat 47, Char.ofNat 108, Char.ofNat 97, Char.ofNat 119, Char.ofNat 115, Char.ofNat 46, Char.ofNat 70, Char.ofNat 110, Char.ofNat 81, Char.ofNat 117, Char.ofNat 101, Char.ofNat 114, Char.ofNat 121]] = ([], [[Char.ofNat 99, Char.ofNat 117, Char.ofNat 116], [Char.ofNat 97, Char.ofNat 116], [Char.ofNat 108, Char.ofNat 111, Char.ofNat 111, Char.ofNat 112, Char.ofNat 46, Char.ofNat 101, Char.ofNat 120, Char.ofNat 97, Char.ofNat 109, Char.ofNat 112, Char.ofNat 108, Char.ofNat 101, Char.ofNat 47, Char.ofNat 115, Char.ofNat 112, Char.ofNat 97, Char.ofNat 110, Char.ofNat 100, Char.ofNat 114, Char.ofNat 101, Char.ofNat 108, Char.ofNat 47, Char.ofNat 108, Char.ofNat 97, Char.ofNat 119, Char.ofNat 115, Char.ofNat 46, Char.ofNat 70, Char.ofNat 110, Char.ofNat 69, Char.ofNat 120, Char.ofNat 97, Char.ofNat 99, Char.ofNat 116, Char.ofNat 75, Char.ofNat 101, Char.ofNat 121, Char.ofNat 115], [Char.ofNat 108, Char.ofNat 111, Char.ofNat 111, Char.ofNat 112, Char.ofNat 46, Char.ofNat 101, Char.ofNat 120, Char.ofNat 97, Char.ofNat 109, Char.ofNat 112, Char.ofNat 108, Char.ofNat 101, Char.ofNat 47, Char.ofNat 115, Char.ofNat 112, Char.ofNat 97, Char.ofNat 110, Char.ofNat 100, Char.ofNat 114, Char.ofNat 101, Char.ofNat 108, Char.ofNat 47, Char.ofNat 108, Char.ofNat 97, Char.ofNat 119, Char.ofNat 115, Char.ofNat 46, Char.ofNat 70, Char.ofNat 110, Char.ofNat 69, Char.ofNat 120, Char.ofNat 97, Char.ofNat 99, Char.ofNat 116, Char.ofNat 65, Char.ofNat 108, Char.ofNat 105, Char.ofNat 107, Char.ofNat 101], [Char.ofNat 108, Char.ofNat 111, Char.ofNat 111, Char.ofNat 112, Char.ofNat 46, Char.ofNat 101, Char.ofNat 120, Char.ofNat 97, Char.ofNat 109, Char.ofNat 112, Char.ofNat 108, Char.ofNat 101, Char.ofNat 47, Char.ofNat 115, Char.ofNat 112, Char.ofNat 97, Char.ofNat 110, Char.ofNat 100, Char.ofNat 114, Char.ofNat 101, Char.ofNat 108, Char.ofNat 47, Char.ofNat 108, Char.ofNat 97, Char.ofNat 119, Char.ofNat 115, Char.ofNat 46, Char.ofNat 70, Char.ofNat 110, Char.ofNat 69, Char.ofNat 120, Char.ofNat 97, Char.ofNat 99, Char.ofNat 116, Char.ofNat 70, Char.ofNat 105, Char.ofNat 110, Char.ofNat 100], [Char.ofNat 108, Char.ofNat 111, Char.ofNat 111, Char.ofNat 112, Char.ofNat 46, Char.ofNat 101, Char.ofNat 120, Char.ofNat 97, Char.ofNat 109, Char.ofNat 112, Char.ofNat 108, Char.ofNat 101, Char.ofNat 47, Char.ofNat 115, Char.ofNat 112, Char.ofNat 97, Char.ofNat 110, Char.ofNat 100, Char.ofNat 114, Char.ofNat 101, Char.ofNat 108, Char.ofNat 47, Char.ofNat 108, Char.ofNat 97, Char.ofNat 119, Char.ofNat 115, Char.ofNat 46, Char.ofNat 70, Char.ofNat 110, Char.ofNat 69, Char.ofNat 120, Char.ofNat 97, Char.ofNat 99, Char.ofNat 116, Char.ofNat 73, Char.ofNat 110, Char.ofNat 100, Char.ofNat 101, Char.ofNat 120, Char.ofNat 68, Char.ofNat 114, Char.ofNat 111, Char.ofNat 112], [Char.ofNat 108, Char.ofNat 111, Char.ofNat 111, Char.ofNat 112, Char.ofNat 46, Char.ofNat 101, Char.ofNat 120, Char.ofNat 97, Char.ofNat 109, Char.ofNat 112, Char.ofNat 108, Char.ofNat 101, Char.ofNat 47, Char.ofNat 115, Char.ofNat 112, Char.ofNat 97, Char.ofNat 110, Char.ofNat 100, Char.ofNat 114, Char.ofNat 101, Char.ofNat 108, Char.ofNat 47, Char.ofNat 108, Char.ofNat 97, Char.ofNat 119, Char.ofNat 115, Char.ofNat 46, Char.ofNat 70, Char.ofNat 110, Char.ofNat 69, Char.ofNat 120, Char.ofNat 97, Char.ofNat 99, Char.ofNat 116, Char.ofNat 73, Char.ofNat 110, Char.ofNat 100, Char.ofNat 101, Char.ofNat 120, Char.ofNat 80, Char.ofNat 117, Char.ofNat 116], [Char.ofNat 108, Char.ofNat 111, Char.ofNat 111, Char.ofNat 112, Char.ofNat 46, Char.ofNat 101, Char.ofNat 120, Char.ofNat 97, Char.ofNat 109, Char.ofNat 112, Char.ofNat 108, Char.ofNat 101, Char.ofNat 47, Char.ofNat 115, Char.ofNat 112, Char.ofNat 97, Char.ofNat 110, Char.ofNat 100, Char.ofNat 114, Char.ofNat 101, Char.ofNat 108, Char.ofNat 47, Char.ofNat 108, Char.ofNat 97, Char.ofNat 119, Char.ofNat 115, Char.ofNat 46, Char.ofNat 70, Char.ofNat 110, Char.ofNat 69, Char.ofNat 120, Char.ofNat 97, Char.ofNat 99, Char.ofNat 116, Char.ofNat 81, Char.ofNat 117, Char.ofNat 101, Char.ofNat 114, Char.ofNat 121, Char.ofNat 71, Char.ofNat 101, Char.ofNat 116], [Char.ofNat 108, Char.ofNat 111, Char.ofNat 111, Char.ofNat 112, Char.ofNat 46, Char.ofNat 101, Char.ofNat 120, Char.ofNat 97, Char.ofNat 109, Char.ofNat 112, Char.ofNat 108, Char.ofNat 101, Char.ofNat 47, Char.ofNat 115, Char.ofNat 112, Char.ofNat 97, Char.ofNat 110, Char.ofNat 100, Char.ofNat 114, Char.ofNat 101, Char.ofNat 108, Char.ofNat 47, Char.ofNat 108, Char.ofNat 97, Char.ofNat 119, Char.ofNat 115, Char.ofNat 46, Char.ofNat 70, Char.ofNat 110, Char.ofNat 81, Char.ofNat 117, Char.ofNat 101, Char.ofNat 114, Char.ofNat 121]]) := by kernel_rfl
theorem io_lays : Tryz.prog.laysLater = false := by kernel_rfl
theorem io_bears : Tryz.prog.bearsReflect = false := by kernel_rfl
theorem io_doors : Tryz.prog.doorFits [] = true := by kernel_rfl
theorem may_enter : Tryz.prog.mayEnter = true := by
  unfold Program.mayEnter
  rw [io_words]
  simp only [io_lifts, io_lays, io_bears, io_doors]
  kernel_rfl
theorem lifts_final : Tryz.prog.liftsFinal = false := by
  unfold Program.liftsFinal Program.headLifts
  rw [io_words]
  simp only [io_lifts]
  kernel_rfl
theorem make_cut : Tryz.prog.make = some .cut := by
  unfold Program.make
  rw [io_words]
  kernel_rfl
theorem laid_out : laidOutB Tryz.prog = true := by kernel_rfl
theorem maps_rowed : mapsRowed Tryz.prog = true := by kernel_rfl
theorem plain_keys : Tryz.prog.plainKeys = false := by kernel_rfl
theorem stops_heard : Tryz.prog.stopsHeard = true := by kernel_rfl
end Go.Proofs.YtmanllfmgghadaaGreatDoor.PVE
