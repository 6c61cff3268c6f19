/- What the rows of this seat share: the arguments' types, the laid table, the library. -/
import Derived.Test.YtjagjfjhinlgiaaT29
import Derived.Test.YtjagjfjhinlgiaaEG
import Derived.Stop.LaidErr
import Derived.Lib.LaidTab
import Derived.Test.YtjagjfjhinlgiaaRows
import Derived.WalkKit
import Derived.ProofKit
import Derived.OpenShut
import Derived.ShutString
import Derived.ChangeOld
import Derived.Below
import Derived.SizedLaws
import Derived.LaidLaws
import Derived.LaidMore
import Derived.ChangeVars
import Derived.WalkSmall
import Derived.MakeChecks
import Derived.Lay
import Derived.Stop.Joined
namespace Go.Proofs.Ytjagjfjhinlgiaa.PVE
open PV Query
open Go.ChangeShapes Go.WideShapes Go.ChangeAt Go.RowKit
set_option linter.unusedVariables false
set_option linter.unusedSimpArgs false
set_option maxRecDepth 100000
theorem rOwn : ownKnob Try.prog.godebug = none := by kernel_rfl
theorem rLaid : laidOutB Try.prog = true := by kernel_rfl
theorem cStr : Try.prog.cellsOf 9 = 1 := by kernel_rfl
theorem closed : closedTys Try.prog [9, 3, 22, 5] = true := by kernel_rfl
theorem byte_of {n : Nat} {x : PV} (h : Ty Try.prog n 5 x) : ∃ b : UInt8, x = bytePV b := by
  cases n with
  | zero => exact h.elim
  | succ n =>
    simp only [Ty, Try.underlying5] at h
    obtain ⟨i, rfl, hw⟩ := h
    simp [Lit.wf, IntKind.min, IntKind.max, IntKind.signed, IntKind.bits] at hw
    refine ⟨UInt8.ofNat i.toNat, ?_⟩
    simp only [bytePV]
    congr 1
    have : i.toNat < 256 := by omega
    rw [UInt8.toNat_ofNat_of_lt' this]
    omega
theorem str_of {n : Nat} {x : PV} (h : Ty Try.prog n 9 x) : ∃ s : Str, x = .str s ∧ s.length ≤ 9223372036854775807 := by
  cases n with
  | zero => exact h.elim
  | succ n =>
    simp only [Ty, Try.underlying9] at h
    obtain ⟨s, rfl, hs⟩ := h
    exact ⟨s, rfl, by simpa [maxLen] using hs⟩
theorem int_of {n : Nat} {x : PV} (h : Ty Try.prog n 3 x) : ∃ i : Int, x = .int .i64 i := by
  cases n with
  | zero => exact h.elim
  | succ n =>
    simp only [Ty, Try.underlying3] at h
    obtain ⟨i, rfl, _⟩ := h
    exact ⟨i, rfl⟩
theorem lift_with {α : Type} {f : α → PV} {Q : α → Prop} : ∀ {es : List PV}, (∀ x ∈ es, ∃ a, x = f a ∧ Q a) → ∃ l : List α, es = l.map f ∧ ∀ a ∈ l, Q a
  | [], _ => ⟨[], rfl, by simp⟩
  | x :: es, h => by
    obtain ⟨a, rfl, ha⟩ := h x (by simp)
    obtain ⟨l, rfl, hl⟩ := lift_with (es := es) fun y hy => h y (by simp [hy])
    exact ⟨a :: l, rfl, by simpa using ⟨ha, hl⟩⟩
section
variable {H : Type} {enc : TypeId × Value → H} {w : World} {R : Nat → Prop} {σ : Nat → Option Hd}
theorem told_sl {es : List PV} {v : Value} (h : Told w R σ (.sl es) [v]) : V w R σ (.sl es) v [] := by
  obtain ⟨_, hcs, _⟩ := h
  simp only [PV.cells, Cs] at hcs
  obtain ⟨u, us', f1, f2, hu, _, hV, _, hf⟩ := hcs
  simp only [List.cons.injEq] at hu
  obtain ⟨rfl, _⟩ := hu
  obtain ⟨rfl, rfl⟩ : f1 = [] ∧ f2 = [] := by simpa using hf.symm
  exact hV
theorem told_agg {cs : List PV} {a : Array Value} (h : Told w R σ (.agg cs) a.toList) : V w R σ (.agg cs) (.agg a) [] := by
  obtain ⟨_, hcs, _⟩ := h
  simp only [V]
  exact ⟨a.toList, by simp, hcs⟩
end
theorem pro_one {w : World} {R : Nat → Prop} {P : Program} {g : Nat} {n : String} {v : Value} {pv : PV} (hR : ∀ b, b < w.heap.size → R b) (hg : P.globalNamed n = some g) (hv : w.var? P n = some #[v]) (h1 : v.oneCell' = true) (hV : V w R (fun _ => none) pv v []) :
    V w R (fun _ => none) (.pro [pv]) (.pointer (some ⟨g, 0, none⟩)) [] ∧ ∃ cur e fr, w.heap[g]? = some (.cells cur e fr) ∧ cur.size = [pv].length := by
  have hc := World.var?_cell hg hv 0
  unfold World.var? at hv
  rw [hg] at hv
  simp only [Option.bind_some] at hv
  split at hv
  · rename_i cur e fr hh
    obtain rfl := Option.some.inj hv
    have hlt : g < w.heap.size := (Array.getElem?_eq_some_iff.1 hh).1
    refine ⟨?_, _, _, _, hh, rfl⟩
    simp only [V]
    refine ⟨trivial, ⟨g, 0, none⟩, [v], rfl, hR _ hlt, fun j u hj => ?_, ?_⟩
    · cases j with
      | zero => simp at hj; subst hj; rw [add_lit']; simpa using hc
      | succ j => simp at hj
    · simp only [Cs]
      exact ⟨v, [], [], [], rfl, h1, hV, ⟨rfl, rfl⟩, rfl⟩
  · cases hv
theorem pro_tab {w : World} {R : Nat → Prop} {P : Program} {g : Nat} {n : String} {zs : List Int} (hR : ∀ b, b < w.heap.size → R b) (hg : P.globalNamed n = some g) (h : Lib.TabIs P w n .u64 zs) :
    V w R (fun _ => none) (.pro (zs.map (PV.int .u64))) (.pointer (some ⟨g, 0, none⟩)) [] ∧ ∃ cur e fr, w.heap[g]? = some (.cells cur e fr) ∧ cur.size = (zs.map (PV.int .u64)).length := by
  unfold Lib.TabIs at h
  have hc := fun j => World.var?_cell hg h j
  unfold World.var? at h
  rw [hg] at h
  simp only [Option.bind_some] at h
  split at h
  · rename_i cur e fr hh
    obtain rfl := Option.some.inj h
    have hlt : g < w.heap.size := (Array.getElem?_eq_some_iff.1 hh).1
    refine ⟨?_, _, _, _, hh, by simp⟩
    simp only [V]
    refine ⟨trivial, ⟨g, 0, none⟩, zs.map fun z => Value.int .u64 z, rfl, hR _ hlt, fun j u hj => ?_, ?_⟩
    · rw [add_lit', Nat.zero_add, hc j]
      simpa using hj
    · clear hc hh hlt
      induction zs with
      | nil => simp [Cs]
      | cons z zs ih =>
        simp only [List.map_cons, Cs, V]
        exact ⟨_, _, [], [], rfl, rfl, ⟨rfl, rfl⟩, ih (by simp), rfl⟩
  · cases h
theorem globN {w : World} {R : Nat → Prop} : GlobOk (fun _ => none) w R := fun _ _ h => by cases h
theorem globC {w : World} {R : Nat → Prop} {G : Nat → Option (List PV)} {k : Nat} {v : List PV} (hv : V w R (fun _ => none) (.pro v) (.pointer (some ⟨k, 0, none⟩)) [] ∧ ∃ cur e fr, w.heap[k]? = some (.cells cur e fr) ∧ cur.size = v.length) (hG : GlobOk G w R) : GlobOk (fun g => if g = k then some v else G g) w R := by
  intro g cs h
  simp only at h
  split at h
  · rename_i hk
    subst hk
    obtain rfl := Option.some.inj h
    exact hv
  · exact hG g cs h
theorem glob_ifc {W : World} {R : Nat → Prop} (hR : ∀ b, b < W.heap.size → R b) {n : String} {nm : String} {x : DataW Unit} {l : List (String × DataW Unit)} {g ti : Nat} {ms : Array (String × TypeId)}
    (hg : Try.prog.globalNamed n = some g) (ht : (Try.prog.globals[g]?).map (·.type) = some ti) (hi : Try.prog.underlying ti = some (.interface ms)) (h : laidMet Try.prog ((n, .iface nm x) :: l) W) :
    V W R (fun _ => none) (.pro [.ifc]) (.pointer (some ⟨g, 0, none⟩)) [] ∧ ∃ cur e fr, W.heap[g]? = some (.cells cur e fr) ∧ cur.size = [PV.ifc].length := by
  obtain ⟨_, ⟨g', t, cs, fuel, p, q, hg', ht', hv, hd, _⟩, _⟩ := h
  obtain rfl := Option.some.inj (hg.symm.trans hg')
  obtain rfl := Option.some.inj (ht.symm.trans ht')
  obtain ⟨f1, u, v, hcs, hn, _⟩ := iface_of_trod hi hd
  rw [Array.eq_one_of_toList hcs] at hv
  exact pro_one hR hg hv rfl (by simp only [V]; exact ⟨⟨_, _, rfl⟩, trivial⟩)
theorem told_str {w : World} {R : Nat → Prop} {σ : Nat → Option Hd} {s : Str} {v : Value} {cs : List Value} (h : Told w R σ (.str s) cs) (hc : cs = [v]) : V w R σ (.str s) v [] := by
  subst hc
  obtain ⟨_, hcs, _⟩ := h
  simp only [PV.cells, Cs] at hcs
  obtain ⟨u, us', f1, f2, hu, _, hV, _, hf⟩ := hcs
  simp only [List.cons.injEq] at hu
  obtain ⟨rfl, _⟩ := hu
  obtain ⟨rfl, rfl⟩ : f1 = [] ∧ f2 = [] := by simpa using hf.symm
  exact hV
theorem u8s_of {n : Nat} {x : PV} (h : Ty Try.prog n 22 x) : ∃ l : List UInt8, x = .sl (l.map bytePV) ∧ l.length ≤ 9223372036854775807 := by
  cases n with
  | zero => exact h.elim
  | succ n =>
    simp only [Ty, Try.underlying22] at h
    obtain ⟨es, rfl, hl, hf⟩ := h
    obtain ⟨l, rfl, _⟩ := lift_with (f := bytePV) (Q := fun _ => True) fun x hx => by
      obtain ⟨b, rfl⟩ := byte_of (hf x hx)
      exact ⟨b, rfl, trivial⟩
    exact ⟨l, rfl, by simpa [maxLen] using hl⟩
theorem lib_ok : CallOk tab.P tab.E tab.L := callOk_of fun p hp xs a h => by
  cases hp
theorem trodVars_nil {H : Type} {enc : TypeId × Value → H} {P : Program} {W : World} {sp : Nat → Bool} {gs : List (DataW H)} {q : List MemPlace} (h : DataW.TrodVars enc P W sp [] gs q) : gs = [] ∧ q = [] := by
  cases gs with
  | nil => exact ⟨rfl, h⟩
  | cons g gs => exact h.elim
theorem toList_lit {s : String} {l : List Char} (h : s = String.ofList l) : s.toList = l := by rw [h, String.toList_ofList]
theorem io_words : behindMainWord (wordsSigns Try.prog.initOrder.toList) = [[Char.ofNat 99, Char.ofNat 117, Char.ofNat 116], [Char.ofNat 97, Char.ofNat 116], [Char.ofNat 108, Char.ofNat 111, Char.ofNat 111, Char.ofNat 112, Char.ofNat 46, Char.ofNat 101, Char.ofNat 120, Char.ofNat 97, Char.ofNat 109, Char.ofNat 112, Char.ofNat 108, Char.ofNat 101, Char.ofNat 47, Char.ofNat 115, Char.ofNat 112, Char.ofNat 97, Char.ofNat 110, Char.ofNat 100, Char.ofNat 114, Char.ofNat 101, Char.ofNat 108, Char.ofNat 47, Char.ofNat 108, Char.ofNat 97, Char.ofNat 119, Char.ofNat 115, Char.ofNat 46, Char.ofNat 70, Char.ofNat 110, Char.ofNat 80, Char.ofNat 97, Char.ofNat 103, Char.ofNat 101], [Char.ofNat 108, Char.ofNat 111, Char.ofNat 111, Char.ofNat 112, Char.ofNat 46, Char.ofNat 101, Char.ofNat 120, Char.ofNat 97, Char.ofNat 109, Char.ofNat 112, Char.ofNat 108, Char.ofNat 101, Char.ofNat 47, Char.ofNat 115, Char.ofNat 112, Char.ofNat 97, Char.ofNat 110, Char.ofNat 100, Char.ofNat 114, Char.ofNat 101, Char.ofNat 108, Char.ofNat 47, Char.ofNat 108, Char.ofNat 97, Char.ofNat 119, Char.ofNat 115, Char.ofNat 46, Char.ofNat 70, Char.ofNat 110, Char.ofNat 80, Char.ofNat 97, Char.ofNat 103, Char.ofNat 101, Char.ofNat 65, Char.ofNat 108, Char.ofNat 108]] := by rw [toList_lit (s := Try.prog.initOrder) (l := [Char.ofNat 104, Char.ofNat 97, Char.ofNat 114, Char.ofNat 110, Char.ofNat 101, Char.ofNat 115, Char.ofNat 115, Char.ofNat 32, Char.ofNat 102, Char.ofNat 99, Char.ofNat 54, Char.ofNat 52, Char.ofNat 97, Char.ofNat 51, Char.ofNat 55, Char.ofNat 50, Char.ofNat 100, Char.ofNat 52, Char.ofNat 102, Char.ofNat 101, Char.ofNat 49, Char.ofNat 54, Char.ofNat 101, Char.ofNat 101, Char.ofNat 101, Char.ofNat 56, Char.ofNat 101, Char.ofNat 101, Char.ofNat 52, Char.ofNat 49, Char.ofNat 52, Char.ofNat 102, Char.ofNat 48, Char.ofNat 51, Char.ofNat 100, Char.ofNat 55, Char.ofNat 49, Char.ofNat 98, Char.ofNat 100, Char.ofNat 57, Char.ofNat 56, Char.ofNat 56, Char.ofNat 50, Char.ofNat 97, Char.ofNat 98, Char.ofNat 53, Char.ofNat 49, Char.ofNat 57, Char.ofNat 52, Char.ofNat 53, Char.ofNat 101, Char.ofNat 99, Char.ofNat 51, Char.ofNat 51, Char.ofNat 102, Char.ofNat 54, Char.ofNat 99, Char.ofNat 50, Char.ofNat 100, Char.ofNat 55, Char.ofNat 97, Char.ofNat 51, Char.ofNat 53, Char.ofNat 101, Char.ofNat 53, Char.ofNat 98, Char.ofNat 98, Char.ofNat 101, Char.ofNat 98, Char.ofNat 49, Char.ofNat 50, Char.ofNat 97, Char.ofNat 32, Char.ofNat 99, Char.ofNat 117, Char.ofNat 116, Char.ofNat 32, Char.ofNat 97, Char.ofNat 116, Char.ofNat 32, Char.ofNat 108, Char.ofNat 111, Char.ofNat 111, Char.ofNat 112, Char.ofNat 46, Char.ofNat 101, Char.ofNat 120, Char.ofNat 97, Char.ofNat 109, Char.ofNat 112, Char.ofNat 108, Char.ofNat 101, Char.ofNat 47, Char.ofNat 115, Char.ofNat 112, Char.ofNat 97, Char.ofNat 110, Char.ofNat 100, Char.ofNat 114, Char.ofNat 101, Char.ofNat 108, Char.ofNat 47, Char.ofNat 108, Char.ofNat 97, Char.ofNat 119, Char.ofNat 115, Char.ofNat 46, Char.ofNat 70, Char.ofNat 110, Char.ofNat 80, Char.ofNat 97, Char.ofNat 103, Char.ofNat 101, Char.ofNat 32, Char.ofNat 108, Char.ofNat 111, Char.ofNat 111, Char.ofNat 112, Char.ofNat 46, Char.ofNat 101, Char.ofNat 120, Char.ofNat 97, Char.ofNat 109, Char.ofNat 112, Char.ofNat 108, Char.ofNat 101, Char.ofNat 47, Char.ofNat 115, Char.ofNat 112, Char.ofNat 97, Char.ofNat 110, Char.ofNat 100, Char.ofNat 114, Char.ofNat 101, Char.ofNat 108, Char.ofNat 47, Char.ofNat 108, Char.ofNat 97, Char.ofNat 119, Char.ofNat 115, Char.ofNat 46, Char.ofNat 70, Char.ofNat 110, Char.ofNat 80, Char.ofNat 97, Char.ofNat 103, Char.ofNat 101, Char.ofNat 65, Char.ofNat 108, Char.ofNat 108]) (by kernel_rfl)]; kernel_rfl
theorem io_lifts : stripLifts liftWords [[Char.ofNat 99, Char.ofNat 117, Char.ofNat 116], [Char.ofNat 97, Char.ofNat 116], [Char.ofNat 108, Char.ofNat 111, Char.ofNat 111, Char.ofNat 112, Char.ofNat 46, Char.ofNat 101, Char.ofNat 120, Char.ofNat 97, Char.ofNat 109, Char.ofNat 112, Char.ofNat 108, Char.ofNat 101, Char.ofNat 47, Char.ofNat 115, Char.ofNat 112, Char.ofNat 97, Char.ofNat 110, Char.ofNat 100, Char.ofNat 114, Char.ofNat 101, Char.ofNat 108, Char.ofNat 47, Char.ofNat 108, Char.ofNat 97, Char.ofNat 119, Char.ofNat 115, Char.ofNat 46, Char.ofNat 70, Char.ofNat 110, Char.ofNat 80, Char.ofNat 97, Char.ofNat 103, Char.ofNat 101], [Char.ofNat 108, Char.ofNat 111, Char.ofNat 111, Char.ofNat 112, Char.ofNat 46, Char.ofNat 101, Char.ofNat 120, Char.ofNat 97, Char.ofNat 109, Char.ofNat 112, Char.ofNat 108, Char.ofNat 101, Char.ofNat 47, Char.ofNat 115, Char.ofNat 112, Char.ofNat 97, Char.ofNat 110, Char.ofNat 100, Char.ofNat 114, Char.ofNat 101, Char.ofNat 108, Char.ofNat 47, Char.ofNat 108, Char.ofNat 97, Char.ofNat 119, Char.ofNat 115, Char.ofNat 46, Char.ofNat 70, Char.ofNat 110, Char.ofNat 80, Char.ofNat 97, Char.ofNat 103, Char.ofNat 101, Char.ofNat 65, Char.ofNat 108, Char.ofNat 108]] = ([], [[Char.ofNat 99, Char.ofNat 117, Char.ofNat 116], [Char.ofNat 97, Char.ofNat 116], [Char.ofNat 108, Char.ofNat 111, Char.ofNat 111, Char.ofNat 112, Char.ofNat 46, Char.ofNat 101, Char.ofNat 120, Char.ofNat 97, Char.ofNat 109, Char.ofNat 112, Char.ofNat 108, Char.ofNat 101, Char.ofNat 47, Char.ofNat 115, Char.ofNat 112, Char.ofNat 97, Char.ofNat 110, Char.ofNat 100, Char.ofNat 114, Char.ofNat 101, Char.ofNat 108, Char.ofNat 47, Char.ofNat 108, Char.ofNat 97, Char.ofNat 119, Char.ofNat 115, Char.ofNat 46, Char.ofNat 70, Char.ofNat 110, Char.ofNat 80, Char.ofNat 97, Char.ofNat 103, Char.ofNat 101], [Char.ofNat 108, Char.ofNat 111, Char.ofNat 111, Char.ofNat 112, Char.ofNat 46, Char.ofNat 101, Char.ofNat 120, Char.ofNat 97, Char.ofNat 109, Char.ofNat 112, Char.ofNat 108, Char.ofNat 101, Char.ofNat 47, Char.ofNat 115, Char.ofNat 112, Char.ofNat 97, Char.ofNat 110, Char.ofNat 100, Char.ofNat 114, Char.ofNat 101, Char.ofNat 108, Char.ofNat 47, Char.ofNat 108, Char.ofNat 97, Char.ofNat 119, Char.ofNat 115, Char.ofNat 46, Char.ofNat 70, Char.ofNat 110, Char.ofNat 80, Char.ofNat 97, Char.ofNat 103, Char.ofNat 101, Char.ofNat 65, Char.ofNat 108, Char.ofNat 108]]) := by kernel_rfl
theorem io_lays : Try.prog.laysLater = false := by kernel_rfl
theorem io_bears : Try.prog.bearsReflect = false := by kernel_rfl
theorem io_doors : Try.prog.doorFits [] = true := by kernel_rfl
theorem may_enter : Try.prog.mayEnter = true := by
  unfold Program.mayEnter
  rw [io_words]
  simp only [io_lifts, io_lays, io_bears, io_doors]
  kernel_rfl
theorem lifts_final : Try.prog.liftsFinal = false := by
  unfold Program.liftsFinal Program.headLifts
  rw [io_words]
  simp only [io_lifts]
  kernel_rfl
theorem make_cut : Try.prog.make = some .cut := by
  unfold Program.make
  rw [io_words]
  kernel_rfl
theorem laid_out : laidOutB Try.prog = true := by kernel_rfl
theorem maps_rowed : mapsRowed Try.prog = true := by kernel_rfl
theorem plain_keys : Try.prog.plainKeys = true := by kernel_rfl
theorem stops_heard : Try.prog.stopsHeard = true := by kernel_rfl
end Go.Proofs.Ytjagjfjhinlgiaa.PVE
