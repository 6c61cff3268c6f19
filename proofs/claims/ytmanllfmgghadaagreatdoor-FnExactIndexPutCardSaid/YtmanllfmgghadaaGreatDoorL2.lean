/- slices.Sort, slices.Compact at strings, strings.Join, strconv.Itoa: the shelf's contracts, as contracts over pure values. -/
import Derived.Test.YtmanllfmgghadaaGreatDoorL1
import Derived.Test.YtmanllfmgghadaaGreatDoorS1
import Derived.Lib.Join
import Derived.Sort.EncStr
import Derived.Lib.SlicesCompact
set_option linter.unusedVariables false
set_option linter.unusedSimpArgs false
set_option linter.unusedSectionVars false
namespace Go.Proofs.YtmanllfmgghadaaGreatDoor.PVE
open PV
open Go.RowKit Go.Lib Go.Sort
def strsOf : List PV → List (List UInt8)
  | [] => []
  | .str s :: l => s :: strsOf l
  | _ :: l => strsOf l
def strsAll : List PV → Bool
  | [] => true
  | .str _ :: l => strsAll l
  | _ => false
section
variable {w : World} {R : Nat → Prop} {σ : Nat → Option Hd}
end
def leStr (x y : List UInt8) : Bool := decide (x ≤ y)
theorem pcalls_below {P : Program} {G : Nat → Option (List PV)} {f : Nat} {args : List PV} {res : PV} {bks : List (Option PV)} (hfn : FnOk P f) (hfp : ∀ w R us fp, Ts w R (fun _ => none) args us fp → fp = [])
    (hb : ∀ w R us, us.length = args.length → Bs w R us bks [])
    (h : ∀ w R us, GlobOk G w R → Ts w R (fun _ => none) args us [] → (∀ b, R b → b < w.heap.size) → Calls P f us.toArray w fun e w' => ∃ v, e = .returned v ∧ (∀ w R, V w R (fun _ => none) res v []) ∧ Below w.heap.size w w') : PCalls P G f args bks res false := by
  refine ⟨hfn, ?_⟩
  intro w R us fp hG hts hnd hfp2 hRb
  obtain rfl := hfp _ _ _ _ hts
  refine (h w R us hG hts hRb).mono ?_
  rintro e w' ⟨v, rfl, hv, bel⟩
  exact ⟨v, R, [], [], rfl, hv _ _, hb _ _ _ (Ts.size (us := us) hts), List.nodup_nil, by simp, fun b hb => hb, fun b hb => ⟨Nat.lt_of_lt_of_le (hRb b hb) bel.size, .inl hb⟩, fun b hb _ => bel.block b hb, bel.size, ⟨bel.tape, fun h => absurd h Bool.false_ne_true⟩, bel.os, bel.output⟩
theorem grow_below (w : World) (k : Nat) (os : Array Obj) : Below w.heap.size w (grow (w.drewN k) os) :=
  ⟨rfl, rfl, rfl, by show _ ≤ (w.heap ++ os).size; simp, fun b hb => by show (w.heap ++ os)[b]? = _; rw [Array.getElem?_append_left hb]⟩
theorem tab_of_glob {P : Program} {G : Nat → Option (List PV)} {w : World} {R : Nat → Prop} {g : Nat} {name : String} {zs : List Int} (hG : GlobOk G w R) (hg : P.globalNamed name = some g) (h : G g = some (zs.map (PV.int .u64))) : Lib.TabIs P w name .u64 zs := by
  obtain ⟨hv, cur, e, fr, hb, hs⟩ := hG g _ h
  simp only [V] at hv
  obtain ⟨_, a, us, ha, _, hc, hcs⟩ := hv
  simp only [Value.pointer.injEq, Option.some.injEq] at ha
  subst ha
  have hus : ∀ (zs : List Int) (us : List Value), Cs w R (fun _ => none) (zs.map (PV.int .u64)) us [] → us = zs.map fun z => Value.int .u64 z := by
    intro zs
    induction zs with
    | nil => intro us h; simp only [List.map_nil, Cs] at h; simpa using h.1
    | cons z zs ih =>
      intro us h
      simp only [List.map_cons, Cs, V] at h
      obtain ⟨u, us', f1, f2, rfl, _, ⟨rfl, rfl⟩, h2, hf⟩ := h
      simp only [List.nil_append] at hf
      subst hf
      rw [ih us' h2]; rfl
  obtain rfl := hus zs us hcs
  unfold Lib.TabIs World.var?
  rw [hg]
  simp only [Option.bind_some, hb]
  congr 1
  apply Array.ext_getElem?
  intro i
  rw [List.length_map] at hs
  by_cases hi : i < zs.length
  · have := hc i (.int .u64 (zs[i])) (by simp [hi])
    rw [add_lit', cell_of_row w g (0 + i) cur e fr hb, Nat.zero_add] at this
    rw [this]
    simp [hi]
  · rw [Array.getElem?_eq_none (by omega), Array.getElem?_eq_none (by simp; omega)]
end Go.Proofs.YtmanllfmgghadaaGreatDoor.PVE
