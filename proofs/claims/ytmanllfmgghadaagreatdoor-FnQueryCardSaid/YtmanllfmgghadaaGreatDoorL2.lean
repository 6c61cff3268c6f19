/- slices.Sort, slices.Compact at strings, strings.Join, strconv.Itoa: the shelf's contracts, as contracts over pure values. -/
import Derived.Test.YtmanllfmgghadaaGreatDoorL1
import Derived.Test.YtmanllfmgghadaaGreatDoorS1
import Derived.Lib.Join
import Derived.Sort.EncStr
import Derived.Lib.SlicesCompact
set_option linter.unusedVariables false
set_option linter.unusedSimpArgs false
set_option linter.unusedSectionVars false
namespace Go.Proofs.YtmanllfmgghadaaGreatDoor.PVE
open PV
open Go.RowKit Go.Lib Go.Sort
def strsOf : List PV → List (List UInt8)
  | [] => []
  | .str s :: l => s :: strsOf l
  | _ :: l => strsOf l
def strsAll : List PV → Bool
  | [] => true
  | .str _ :: l => strsAll l
  | _ => false
theorem strs_map : ∀ {l : List PV}, strsAll l = true → l = (strsOf l).map .str
  | [], _ => rfl
  | .str s :: l, h => by rw [strsOf, List.map_cons, ← strs_map (l := l) h]
theorem strsOf_map : ∀ l : List (List UInt8), strsOf (l.map .str) = l
  | [] => rfl
  | s :: l => by rw [List.map_cons, strsOf, strsOf_map l]
theorem strsAll_map : ∀ l : List (List UInt8), strsAll (l.map .str) = true
  | [] => rfl
  | s :: l => by rw [List.map_cons, strsAll, strsAll_map l]
section
variable {w : World} {R : Nat → Prop} {σ : Nat → Option Hd}
theorem es_strs : ∀ {l : List (List UInt8)} {us : List Value} {fp : List Nat}, Es w R σ 1 (l.map .str) us fp → us = l.map encStr ∧ fp = []
  | [], us, fp, h => by simpa [Es] using h
  | s :: l, us, fp, h => by
    simp only [List.map_cons, Es] at h
    obtain ⟨v, us', f1, f2, rfl, _, _, _, hv, hr, rfl⟩ := h
    obtain ⟨rfl, rfl⟩ := es_strs hr
    simp only [V] at hv
    obtain ⟨rfl, rfl⟩ := hv
    exact ⟨rfl, rfl⟩
end
def leStr (x y : List UInt8) : Bool := decide (x ≤ y)
theorem pcalls_below {P : Program} {G : Nat → Option (List PV)} {f : Nat} {args : List PV} {res : PV} {bks : List (Option PV)} (hfn : FnOk P f) (hfp : ∀ w R us fp, Ts w R (fun _ => none) args us fp → fp = [])
    (hb : ∀ w R us, us.length = args.length → Bs w R us bks [])
    (h : ∀ w R us, GlobOk G w R → Ts w R (fun _ => none) args us [] → (∀ b, R b → b < w.heap.size) → Calls P f us.toArray w fun e w' => ∃ v, e = .returned v ∧ (∀ w R, V w R (fun _ => none) res v []) ∧ Below w.heap.size w w') : PCalls P G f args bks res false := by
  refine ⟨hfn, ?_⟩
  intro w R us fp hG hts hnd hfp2 hRb
  obtain rfl := hfp _ _ _ _ hts
  refine (h w R us hG hts hRb).mono ?_
  rintro e w' ⟨v, rfl, hv, bel⟩
  exact ⟨v, R, [], [], rfl, hv _ _, hb _ _ _ (Ts.size (us := us) hts), List.nodup_nil, by simp, fun b hb => hb, fun b hb => ⟨Nat.lt_of_lt_of_le (hRb b hb) bel.size, .inl hb⟩, fun b hb _ => bel.block b hb, bel.size, ⟨bel.tape, fun h => absurd h Bool.false_ne_true⟩, bel.os, bel.output⟩
def libJoin : List PV → Option Ans
  | [.sl xs, .str sep] => if strsAll xs = true ∧ xs.length ≤ 1099511627776 ∧ (Lib.join (strsOf xs) sep).length ≤ 140737488355328 then some ⟨[none, none], .str (Lib.join (strsOf xs) sep)⟩ else none
  | _ => none
theorem libJoin_ok {G : Nat → Option (List PV)} {xs : List PV} {a : Ans} (h : libJoin xs = some a) : PCalls Tryz.prog G 166 xs a.bks a.res false := by
  unfold libJoin at h
  split at h
  case h_2 => cases h
  rename_i xs sep
  split at h
  case isFalse => cases h
  rename_i hx
  obtain rfl := Option.some.inj h
  obtain ⟨hx1, hx2, hx3⟩ := hx
  rw [strs_map hx1]
  have hlen : (strsOf xs).length ≤ 1099511627776 := by have := congrArg List.length (strs_map hx1); simp at this; omega
  rw [strsOf_map]
  generalize strsOf xs = l at *
  refine pcalls_below ⟨_, Tryz.func166, by kernel_rfl, by kernel_rfl⟩ (fun w R us fp hts => ?_) (fun w R us hl => ?_) ?_
  · simp only [Ts, V] at hts
    obtain ⟨u, us', f1, f2, rfl, ⟨rfl, _⟩, ⟨u2, us2, f3, f4, rfl, ⟨_, rfl⟩, ⟨rfl, rfl⟩, rfl⟩, rfl⟩ := hts
    rfl
  · match us, hl with
    | [a, b], _ => simp [Bs]
  · intro w R us hG hts hRb
    simp only [Ts, V] at hts
    obtain ⟨u, us', f1, f2, rfl, ⟨rfl, A, cap, vs, sz, rfl, h1, h2, h3, h4⟩, ⟨u2, us2, f3, f4, rfl, ⟨rfl, rfl⟩, ⟨rfl, rfl⟩, rfl⟩, _⟩ := hts
    rw [List.length_map] at h1 h3 ⊢
    have h4' := h4
    by_cases hl : l = []
    · subst hl
      refine (Tryz.strings_Join_none A cap ⟨sep.toArray⟩ w).mono ?_
      rintro e w' ⟨rfl, rfl⟩
      exact ⟨_, rfl, fun w R => by simp [V, Lib.join], Below.refl _ _⟩
    · have hpos : 0 < l.length := List.length_pos_iff.2 hl
      obtain ⟨ad, rfl, hr, hc⟩ := h3 hpos
      have hsz : sz = 1 := by
        cases l with
        | nil => exact absurd rfl hl
        | cons s l =>
          simp only [List.map_cons, Es] at h4
          obtain ⟨v, us', f1, f2, _, hs, _, _, hv, _⟩ := h4
          simp only [V] at hv
          rw [hv.1] at hs
          simpa [Value.cells] using hs.symm
      subst hsz
      obtain ⟨rfl, _⟩ := es_strs h4
      obtain ⟨bk, off, spot⟩ := ad
      have h0 := hc 0 (encStr (l[0])) (by simp [hpos])
      have hspot : spot = none := by
        simp only [Addr.add, if_pos, World.cell?] at h0
        split at h0
        · split at h0
          · cases h0
          · rename_i hs; simpa using hs
        · cases h0
      subst hspot
      have hcon := Tryz.strings_Join bk off cap (l.map fun s => (⟨s.toArray⟩ : ByteArray)) ⟨sep.toArray⟩ w ?_ (hRb _ hr) (by simp; omega) (by simpa using h1) (by simpa [Function.comp_def] using hx3)
      · rw [List.length_map] at hcon
        refine hcon.mono ?_
        rintro e w' ⟨rfl, bel⟩
        exact ⟨_, rfl, fun w R => by simp [V, Function.comp_def], bel⟩
      · intro j x hj
        simp only [List.getElem?_map, Option.map_eq_some_iff] at hj
        obtain ⟨s, hs, rfl⟩ := hj
        have := hc j (encStr s) (by simp [hs])
        have e : Addr.add ⟨bk, off, none⟩ j = ⟨bk, off + j, none⟩ := by
          unfold Addr.add
          split
          · rename_i h; subst h; rfl
          · rfl
        rw [e] at this
        exact this
def libItoa : List PV → Option Ans
  | [.int .i64 n] => if -9223372036854775808 ≤ n ∧ n ≤ 9223372036854775807 then some ⟨[none], .str (Lib.itoa n)⟩ else none
  | _ => none
theorem grow_below (w : World) (k : Nat) (os : Array Obj) : Below w.heap.size w (grow (w.drewN k) os) :=
  ⟨rfl, rfl, rfl, by show _ ≤ (w.heap ++ os).size; simp, fun b hb => by show (w.heap ++ os)[b]? = _; rw [Array.getElem?_append_left hb]⟩
theorem tab_of_glob {P : Program} {G : Nat → Option (List PV)} {w : World} {R : Nat → Prop} {g : Nat} {name : String} {zs : List Int} (hG : GlobOk G w R) (hg : P.globalNamed name = some g) (h : G g = some (zs.map (PV.int .u64))) : Lib.TabIs P w name .u64 zs := by
  obtain ⟨hv, cur, e, fr, hb, hs⟩ := hG g _ h
  simp only [V] at hv
  obtain ⟨_, a, us, ha, _, hc, hcs⟩ := hv
  simp only [Value.pointer.injEq, Option.some.injEq] at ha
  subst ha
  have hus : ∀ (zs : List Int) (us : List Value), Cs w R (fun _ => none) (zs.map (PV.int .u64)) us [] → us = zs.map fun z => Value.int .u64 z := by
    intro zs
    induction zs with
    | nil => intro us h; simp only [List.map_nil, Cs] at h; simpa using h.1
    | cons z zs ih =>
      intro us h
      simp only [List.map_cons, Cs, V] at h
      obtain ⟨u, us', f1, f2, rfl, _, ⟨rfl, rfl⟩, h2, hf⟩ := h
      simp only [List.nil_append] at hf
      subst hf
      rw [ih us' h2]; rfl
  obtain rfl := hus zs us hcs
  unfold Lib.TabIs World.var?
  rw [hg]
  simp only [Option.bind_some, hb]
  congr 1
  apply Array.ext_getElem?
  intro i
  rw [List.length_map] at hs
  by_cases hi : i < zs.length
  · have := hc i (.int .u64 (zs[i])) (by simp [hi])
    rw [add_lit', cell_of_row w g (0 + i) cur e fr hb, Nat.zero_add] at this
    rw [this]
    simp [hi]
  · rw [Array.getElem?_eq_none (by omega), Array.getElem?_eq_none (by simp; omega)]
theorem libItoa_ok {G : Nat → Option (List PV)} {g : Nat} (hg : Tryz.prog.globalNamed "internal/strconv.uint64pow10" = some g) (hG0 : G g = some (Lib.pow10Tab.map (PV.int .u64))) {xs : List PV} {a : Ans} (h : libItoa xs = some a) : PCalls Tryz.prog G 165 xs a.bks a.res false := by
  unfold libItoa at h
  split at h
  case h_2 => cases h
  rename_i n
  split at h
  case isFalse => cases h
  rename_i hn
  obtain rfl := Option.some.inj h
  refine pcalls_below ⟨_, Tryz.func165, by kernel_rfl, by kernel_rfl⟩ (fun w R us fp hts => ?_) (fun w R us hl => ?_) ?_
  · simp only [Ts, V] at hts
    obtain ⟨u, us', f1, f2, rfl, ⟨_, rfl⟩, ⟨rfl, rfl⟩, rfl⟩ := hts
    rfl
  · match us, hl with
    | [a], _ => simp [Bs]
  · intro w R us hG hts hRb
    simp only [Ts, V] at hts
    obtain ⟨u, us', f1, f2, rfl, ⟨rfl, rfl⟩, ⟨rfl, rfl⟩, _⟩ := hts
    refine (Tryz.strconv_Itoa n hn.1 hn.2 w (tab_of_glob hG hg hG0)).mono ?_
    rintro e w' ⟨rfl, k, os, rfl⟩
    exact ⟨_, rfl, fun w R => by simp [V], grow_below w k os⟩
end Go.Proofs.YtmanllfmgghadaaGreatDoor.PVE
