/- slices.Sort, slices.Compact at strings, strings.Join, strconv.Itoa: the shelf's contracts, as contracts over pure values. -/
import Derived.Test.YtmanllfmgghadaaGreatDoorL1
import Derived.Test.YtmanllfmgghadaaGreatDoorS1
import Derived.Lib.Join
import Derived.Sort.EncStr
import Derived.Lib.SlicesCompact
set_option linter.unusedVariables false
set_option linter.unusedSimpArgs false
set_option linter.unusedSectionVars false
namespace Go.Proofs.YtmanllfmgghadaaGreatDoor.PVE
open PV
open Go.RowKit Go.Lib Go.Sort
def strsOf : List PV → List (List UInt8)
  | [] => []
  | .str s :: l => s :: strsOf l
  | _ :: l => strsOf l
def strsAll : List PV → Bool
  | [] => true
  | .str _ :: l => strsAll l
  | _ => false
theorem strs_map : ∀ {l : List PV}, strsAll l = true → l = (strsOf l).map .str
  | [], _ => rfl
  | .str s :: l, h => by rw [strsOf, List.map_cons, ← strs_map (l := l) h]
theorem strsOf_map : ∀ l : List (List UInt8), strsOf (l.map .str) = l
  | [] => rfl
  | s :: l => by rw [List.map_cons, strsOf, strsOf_map l]
theorem strsAll_map : ∀ l : List (List UInt8), strsAll (l.map .str) = true
  | [] => rfl
  | s :: l => by rw [List.map_cons, strsAll, strsAll_map l]
section
variable {w : World} {R : Nat → Prop} {σ : Nat → Option Hd}
theorem es_strs : ∀ {l : List (List UInt8)} {us : List Value} {fp : List Nat}, Es w R σ 1 (l.map .str) us fp → us = l.map encStr ∧ fp = []
  | [], us, fp, h => by simpa [Es] using h
  | s :: l, us, fp, h => by
    simp only [List.map_cons, Es] at h
    obtain ⟨v, us', f1, f2, rfl, _, _, _, hv, hr, rfl⟩ := h
    obtain ⟨rfl, rfl⟩ := es_strs hr
    simp only [V] at hv
    obtain ⟨rfl, rfl⟩ := hv
    exact ⟨rfl, rfl⟩
theorem es_strs_mk : ∀ (l : List (List UInt8)), Es w R σ 1 (l.map .str) (l.map encStr) []
  | [] => by simp [Es]
  | s :: l => by
    simp only [List.map_cons, Es]
    refine ⟨encStr s, l.map encStr, [], [], rfl, rfl, fun u hu => ?_, by simp, by simp [V], es_strs_mk l, rfl⟩
    simp [Value.cells] at hu
    subst hu
    rfl
theorem slo_strs {l : List (List UInt8)} {v : Value} {fp : List Nat} (h : V w R σ (.slo 1 (l.map .str)) v fp) : (v = .slice none 0 0 ∧ l = [] ∧ fp = []) ∨
    ∃ g cap cur e lo hi, v = .slice (some ⟨g, 0, none⟩) l.length cap ∧ w.heap[g]? = some (.cells cur e (lo, hi)) ∧ ((lo = 0 ∧ hi = 0) ∨ cur.size ≤ lo) ∧ l.length ≤ cap ∧ cap ≤ maxLen ∧ cur.size = cap ∧ cur.toList.take l.length = l.map encStr ∧ fp = [g] := by
  simp only [V] at h
  obtain ⟨us, fp', hrow, hes, rfl⟩ := h
  obtain ⟨rfl, rfl⟩ := es_strs hes
  rcases hrow.2 with ⟨rfl, hl⟩ | ⟨g, cap, cur, e, lo, hi, rfl, h1, h2, h3, h4, h5, h6⟩
  · exact .inl ⟨rfl, by simpa using hl, rfl⟩
  · refine .inr ⟨g, cap, cur, e, lo, hi, by simp, h1, h2, by simpa using h3, h4, by simpa using h5, by simpa using h6, rfl⟩
theorem slo_strs_mk {m : List (List UInt8)} {g cap : Nat} {cur : Array Value} {e : TypeId} {lo hi : Nat} (h1 : w.heap[g]? = some (.cells cur e (lo, hi))) (h2 : (lo = 0 ∧ hi = 0) ∨ cur.size ≤ lo) (h3 : m.length ≤ cap) (h4 : cap ≤ maxLen) (h5 : cur.size = cap) (h6 : cur.toList.take m.length = m.map encStr) :
    V w R σ (.slo 1 (m.map .str)) (.slice (some ⟨g, 0, none⟩) m.length cap) [g] := by
  simp only [V]
  refine ⟨m.map encStr, [], ⟨by simp, .inr ⟨g, cap, cur, e, lo, hi, by simp, h1, h2, by simpa using h3, h4, by simpa using h5, by simpa using h6⟩⟩, es_strs_mk m, rfl⟩
end
theorem heap_put {enc : List UInt8 → Value} {w : World} {n g : Nat} {d : Array (List UInt8)} {os : Array Obj} {cur : Array Value} {e : TypeId} {fr : Nat × Nat} (h : w.heap[g]? = some (.cells cur e fr)) :
    (grow (putRow enc (Sort.ahead w n) g 0 d) os).heap[g]? = some (.cells (putCells enc 0 d cur) e fr) := by
  have hg : g < w.heap.size := (Array.getElem?_eq_some_iff.1 h).1
  show ((w.heap.modify g (onCells (putCells enc 0 d))) ++ os)[g]? = _
  rw [Array.getElem?_append_left (by simpa using hg), Array.getElem?_modify, if_pos rfl, h]
  rfl
theorem heap_put_other {enc : List UInt8 → Value} {w : World} {n g b : Nat} {d : Array (List UInt8)} {os : Array Obj} (hb : b < w.heap.size) (h : b ≠ g) :
    (grow (putRow enc (Sort.ahead w n) g 0 d) os).heap[b]? = w.heap[b]? := by
  show ((w.heap.modify g (onCells (putCells enc 0 d))) ++ os)[b]? = _
  rw [Array.getElem?_append_left (by simpa using hb), Array.getElem?_modify, if_neg (fun e => h e.symm)]
theorem heap_put_size {enc : List UInt8 → Value} {w : World} {n g : Nat} {d : Array (List UInt8)} {os : Array Obj} : (grow (putRow enc (Sort.ahead w n) g 0 d) os).heap.size = w.heap.size + os.size := by
  show ((w.heap.modify g (onCells (putCells enc 0 d))) ++ os).size = _
  simp
theorem put_take {d : Array (List UInt8)} {cur : Array Value} (h : d.size ≤ cur.size) : (putCells encStr 0 d cur).toList.take d.size = d.toList.map encStr := by
  apply List.ext_getElem?
  intro i
  by_cases hi : i < d.size
  · have h2 : i < cur.size := by omega
    rw [List.getElem?_take_of_lt hi, Array.getElem?_toList, «Sort».putCells, Array.getElem?_mapIdx, Array.getElem?_eq_getElem h2, List.getElem?_map, Array.getElem?_toList, Array.getElem?_eq_getElem hi]
    simp [hi]
  · rw [List.getElem?_eq_none (by simp; omega), List.getElem?_eq_none (by simp; omega)]
def leStr (x y : List UInt8) : Bool := decide (x ≤ y)
def libSort : List PV → Option Ans
  | [.slo 1 xs] => if strsAll xs = true ∧ xs.length ≤ 1099511627776 then some ⟨[some (.slo 1 (((strsOf xs).mergeSort leStr).map .str))], .tup []⟩ else none
  | _ => none
theorem libSort_ok {G : Nat → Option (List PV)} {xs : List PV} {a : Ans} (h : libSort xs = some a) : PCalls Tryz.prog G 269 xs a.bks a.res false := by
  unfold libSort at h
  split at h
  case h_2 => cases h
  rename_i xs
  split at h
  case isFalse => cases h
  rename_i hx
  obtain rfl := Option.some.inj h
  rw [strs_map hx.1]
  have hlen : (strsOf xs).length ≤ 1099511627776 := by have := congrArg List.length (strs_map hx.1); simp at this; omega
  rw [strsOf_map]
  generalize strsOf xs = l at *
  refine ⟨⟨_, Tryz.func269, by kernel_rfl, by kernel_rfl⟩, ?_⟩
  intro w R us fp hG hts hnd hfp hRb
  simp only [Ts] at hts
  obtain ⟨v, us', f1, f2, rfl, hv, ⟨rfl, rfl⟩, rfl⟩ := hts
  rw [List.append_nil] at hfp hnd
  rcases slo_strs hv with ⟨rfl, rfl, rfl⟩ | ⟨g, cap, cur, e, lo, hi, rfl, h1, h2, h3, h4, h5, h6, rfl⟩
  · refine (Tryz.slices_Sort_string_none none 0 w).mono ?_
    rintro e w' ⟨rfl, rfl⟩
    refine ⟨_, R, [], [], rfl, by simp [V, Ts], ?_, List.nodup_nil, by simp, fun b hb => hb, fun b hb => ⟨hRb b hb, .inl hb⟩, fun _ _ _ => rfl, Nat.le_refl _, ⟨rfl, fun _ => Nat.le_refl _⟩, rfl, rfl⟩
    simp only [Bs]
    refine ⟨[], [], ?_, rfl, rfl⟩
    simp [V, Es, Row]
    rfl
  · have hg : g < w.heap.size := (Array.getElem?_eq_some_iff.1 h1).1
    have hH : Holds encStr w g 0 l.toArray := by
      intro j hj
      have hj : j < l.length := by simpa using hj
      have hc : cur[j]? = some (encStr (l[j])) := by
        have := congrArg (fun x => x[j]?) h6
        simp only [List.getElem?_take_of_lt hj, Array.getElem?_toList, List.getElem?_map, List.getElem?_eq_getElem hj, Option.map_some] at this
        exact this
      refine ⟨?_, ?_⟩
      · simp [World.cell?, h1, hc, hj]
      · simp [World.frozen?, h1]
        omega
    refine (Tryz.slices_Sort_string g 0 cap l w hH hg (by omega)).mono ?_
    rintro e' w' ⟨rfl, n, os, rfl⟩
    have hsz : (l.mergeSort leStr).length = l.length := List.length_mergeSort _
    refine ⟨_, R, [], [g], rfl, by simp [V, Ts], ?_, by simp, ?_, fun b hb => hb, fun b hb => ⟨by rw [heap_put_size]; have := hRb b hb; omega, .inl hb⟩, fun b hb hn => heap_put_other hb (by simpa using hn), by rw [heap_put_size]; omega, ⟨rfl, fun _ => Nat.le_add_right _ _⟩, rfl, rfl⟩
    · simp only [Bs]
      refine ⟨[g], [], ?_, rfl, rfl⟩
      have hh2 : (lo = 0 ∧ hi = 0) ∨ («Sort».putCells encStr 0 (l.mergeSort leStr).toArray cur).size ≤ lo := by
        rcases h2 with h2 | h2
        · exact .inl h2
        · exact .inr (by simpa [«Sort».putCells] using h2)
      have hV := slo_strs_mk (R := fun b => R b ∧ (True → w.heap.size ≤ b)) (σ := fun _ => none) (m := l.mergeSort leStr) (heap_put (enc := encStr) (n := n) (os := os) (d := (l.mergeSort leStr).toArray) h1) hh2 (by omega) h4 (by simpa [«Sort».putCells] using h5)
        (by have := put_take (d := (l.mergeSort leStr).toArray) (cur := cur) (by simp [hsz]; omega); simpa using this)
      rw [hsz] at hV
      exact hV
    · intro b hb
      simp at hb
      subst hb
      exact ⟨by rw [heap_put_size]; omega, (hfp b (by simp)).2, .inl (by simp)⟩
def libCompact : List PV → Option Ans
  | [.slo 1 xs] => if strsAll xs = true ∧ xs.length ≤ 1099511627776 then some ⟨[none], .slo 1 ((Lib.compact (strsOf xs)).map .str)⟩ else none
  | _ => none
theorem compact_len (l : List (List UInt8)) : (Lib.compact l).length ≤ l.length := by
  unfold Lib.compact Lib.compactUpTo
  rw [List.length_map]
  exact Nat.le_trans (List.length_filter_le _ _) (by simp)
theorem libCompact_ok {G : Nat → Option (List PV)} {xs : List PV} {a : Ans} (h : libCompact xs = some a) : PCalls Tryz.prog G 270 xs a.bks a.res false := by
  unfold libCompact at h
  split at h
  case h_2 => cases h
  rename_i xs
  split at h
  case isFalse => cases h
  rename_i hx
  obtain rfl := Option.some.inj h
  rw [strs_map hx.1]
  have hlen : (strsOf xs).length ≤ 1099511627776 := by have := congrArg List.length (strs_map hx.1); simp at this; omega
  rw [strsOf_map]
  generalize strsOf xs = l at *
  refine ⟨⟨_, Tryz.func270, by kernel_rfl, by kernel_rfl⟩, ?_⟩
  intro w R us fp hG hts hnd hfp hRb
  simp only [Ts] at hts
  obtain ⟨v, us', f1, f2, rfl, hv, ⟨rfl, rfl⟩, rfl⟩ := hts
  rw [List.append_nil] at hfp hnd
  rcases slo_strs hv with ⟨rfl, rfl, rfl⟩ | ⟨g, cap, cur, e, lo, hi, rfl, h1, h2, h3, h4, h5, h6, rfl⟩
  · refine (Tryz.slices_Compact_string_empty none 0 w).mono ?_
    rintro e w' ⟨rfl, rfl⟩
    refine ⟨_, R, [], [], rfl, ?_, by simp [Bs], List.nodup_nil, by simp, fun b hb => hb, fun b hb => ⟨hRb b hb, .inl hb⟩, fun _ _ _ => rfl, Nat.le_refl _, ⟨rfl, fun _ => Nat.le_refl _⟩, rfl, rfl⟩
    rw [show Lib.compact ([] : List (List UInt8)) = [] from rfl]
    simp [V, Es, Row]
    rfl
  · have hg : g < w.heap.size := (Array.getElem?_eq_some_iff.1 h1).1
    have hH : Holds encStr w g 0 l.toArray := by
      intro j hj
      have hj : j < l.length := by simpa using hj
      have hc : cur[j]? = some (encStr (l[j])) := by
        have := congrArg (fun x => x[j]?) h6
        simp only [List.getElem?_take_of_lt hj, Array.getElem?_toList, List.getElem?_map, List.getElem?_eq_getElem hj, Option.map_some] at this
        exact this
      refine ⟨?_, ?_⟩
      · simp [World.cell?, h1, hc, hj]
      · simp [World.frozen?, h1]
        omega
    refine (Tryz.slices_Compact_string g 0 cap l w hH (by omega) h3).mono ?_
    rintro e' w' ⟨rfl, n, rfl⟩
    have hcl := compact_len l
    obtain ⟨d, hd⟩ : ∃ d, d = (Lib.compact l ++ List.replicate (l.length - (Lib.compact l).length) []).toArray := ⟨_, rfl⟩
    have hds : d.size = l.length := by rw [hd]; simp; omega
    rw [← hd, ← grow_empty (putRow encStr _ _ _ _)]
    refine ⟨_, R, [g], [], rfl, ?_, by simp [Bs], by simp, ?_, fun b hb => hb, fun b hb => ⟨by rw [heap_put_size]; have := hRb b hb; omega, .inl hb⟩, fun b hb hn => heap_put_other hb (by simpa using hn), by rw [heap_put_size]; omega, ⟨rfl, fun _ => Nat.le_add_right _ _⟩, rfl, rfl⟩
    · have hh2 : (lo = 0 ∧ hi = 0) ∨ («Sort».putCells encStr 0 d cur).size ≤ lo := by
        rcases h2 with h2 | h2
        · exact .inl h2
        · exact .inr (by simpa [«Sort».putCells] using h2)
      have ht : («Sort».putCells encStr 0 d cur).toList.take (Lib.compact l).length = (Lib.compact l).map encStr := by
        have := put_take (d := d) (cur := cur) (by omega)
        have h7 := congrArg (List.take (Lib.compact l).length) this
        rw [List.take_take, Nat.min_eq_left (by omega)] at h7
        rw [h7, hd]
        simp [List.take_append]
      exact slo_strs_mk (heap_put (enc := encStr) (n := n) (os := #[]) (d := d) h1) hh2 (by omega) h4 (by simpa [«Sort».putCells] using h5) ht
    · intro b hb
      simp at hb
      subst hb
      exact ⟨by rw [heap_put_size]; omega, (hfp b (by simp)).2, .inl (by simp)⟩
theorem pcalls_below {P : Program} {G : Nat → Option (List PV)} {f : Nat} {args : List PV} {res : PV} {bks : List (Option PV)} (hfn : FnOk P f) (hfp : ∀ w R us fp, Ts w R (fun _ => none) args us fp → fp = [])
    (hb : ∀ w R us, us.length = args.length → Bs w R us bks [])
    (h : ∀ w R us, GlobOk G w R → Ts w R (fun _ => none) args us [] → (∀ b, R b → b < w.heap.size) → Calls P f us.toArray w fun e w' => ∃ v, e = .returned v ∧ (∀ w R, V w R (fun _ => none) res v []) ∧ Below w.heap.size w w') : PCalls P G f args bks res false := by
  refine ⟨hfn, ?_⟩
  intro w R us fp hG hts hnd hfp2 hRb
  obtain rfl := hfp _ _ _ _ hts
  refine (h w R us hG hts hRb).mono ?_
  rintro e w' ⟨v, rfl, hv, bel⟩
  exact ⟨v, R, [], [], rfl, hv _ _, hb _ _ _ (Ts.size (us := us) hts), List.nodup_nil, by simp, fun b hb => hb, fun b hb => ⟨Nat.lt_of_lt_of_le (hRb b hb) bel.size, .inl hb⟩, fun b hb _ => bel.block b hb, bel.size, ⟨bel.tape, fun h => absurd h Bool.false_ne_true⟩, bel.os, bel.output⟩
theorem grow_below (w : World) (k : Nat) (os : Array Obj) : Below w.heap.size w (grow (w.drewN k) os) :=
  ⟨rfl, rfl, rfl, by show _ ≤ (w.heap ++ os).size; simp, fun b hb => by show (w.heap ++ os)[b]? = _; rw [Array.getElem?_append_left hb]⟩
theorem tab_of_glob {P : Program} {G : Nat → Option (List PV)} {w : World} {R : Nat → Prop} {g : Nat} {name : String} {zs : List Int} (hG : GlobOk G w R) (hg : P.globalNamed name = some g) (h : G g = some (zs.map (PV.int .u64))) : Lib.TabIs P w name .u64 zs := by
  obtain ⟨hv, cur, e, fr, hb, hs⟩ := hG g _ h
  simp only [V] at hv
  obtain ⟨_, a, us, ha, _, hc, hcs⟩ := hv
  simp only [Value.pointer.injEq, Option.some.injEq] at ha
  subst ha
  have hus : ∀ (zs : List Int) (us : List Value), Cs w R (fun _ => none) (zs.map (PV.int .u64)) us [] → us = zs.map fun z => Value.int .u64 z := by
    intro zs
    induction zs with
    | nil => intro us h; simp only [List.map_nil, Cs] at h; simpa using h.1
    | cons z zs ih =>
      intro us h
      simp only [List.map_cons, Cs, V] at h
      obtain ⟨u, us', f1, f2, rfl, _, ⟨rfl, rfl⟩, h2, hf⟩ := h
      simp only [List.nil_append] at hf
      subst hf
      rw [ih us' h2]; rfl
  obtain rfl := hus zs us hcs
  unfold Lib.TabIs World.var?
  rw [hg]
  simp only [Option.bind_some, hb]
  congr 1
  apply Array.ext_getElem?
  intro i
  rw [List.length_map] at hs
  by_cases hi : i < zs.length
  · have := hc i (.int .u64 (zs[i])) (by simp [hi])
    rw [add_lit', cell_of_row w g (0 + i) cur e fr hb, Nat.zero_add] at this
    rw [this]
    simp [hi]
  · rw [Array.getElem?_eq_none (by omega), Array.getElem?_eq_none (by simp; omega)]
end Go.Proofs.YtmanllfmgghadaaGreatDoor.PVE
