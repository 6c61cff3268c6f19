/- slices.Sort, slices.Compact at numbers: the shelf's contracts, as contracts over pure values. -/
import Derived.Test.YtgnggcpcijcahaaGreatDoorL4
import Derived.Test.YtgnggcpcijcahaaGreatDoorS1
import Derived.Lib.SlicesCompact
set_option linter.unusedVariables false
set_option linter.unusedSimpArgs false
set_option linter.unusedSectionVars false
namespace Go.Proofs.YtgnggcpcijcahaaGreatDoor.PVE
open PV
open Go.RowKit Go.Lib Go.Sort
abbrev encI : Int → Value := Value.int .i64
def insOf : List PV → List Int
  | [] => []
  | .int .i64 s :: l => s :: insOf l
  | _ :: l => insOf l
def insAll : List PV → Bool
  | [] => true
  | .int .i64 _ :: l => insAll l
  | _ => false
theorem ins_map : ∀ {l : List PV}, insAll l = true → l = (insOf l).map (.int .i64)
  | [], _ => rfl
  | .int .i64 s :: l, h => by rw [insOf, List.map_cons, ← ins_map (l := l) h]
theorem insOf_map : ∀ l : List Int, insOf (l.map (.int .i64)) = l
  | [] => rfl
  | s :: l => by rw [List.map_cons, insOf, insOf_map l]
theorem insAll_map : ∀ l : List Int, insAll (l.map (.int .i64)) = true
  | [] => rfl
  | s :: l => by rw [List.map_cons, insAll, insAll_map l]
section
variable {w : World} {R : Nat → Prop} {σ : Nat → Option Hd}
theorem es_ins : ∀ {l : List Int} {us : List Value} {fp : List Nat}, Es w R σ 1 (l.map (.int .i64)) us fp → us = l.map encI ∧ fp = []
  | [], us, fp, h => by simpa [Es] using h
  | s :: l, us, fp, h => by
    simp only [List.map_cons, Es] at h
    obtain ⟨v, us', f1, f2, rfl, _, _, _, hv, hr, rfl⟩ := h
    obtain ⟨rfl, rfl⟩ := es_ins hr
    simp only [V] at hv
    obtain ⟨rfl, rfl⟩ := hv
    exact ⟨rfl, rfl⟩
theorem es_ins_mk : ∀ (l : List Int), Es w R σ 1 (l.map (.int .i64)) (l.map encI) []
  | [] => by simp [Es]
  | s :: l => by
    simp only [List.map_cons, Es]
    refine ⟨encI s, l.map encI, [], [], rfl, rfl, fun u hu => ?_, by simp, by simp [V], es_ins_mk l, rfl⟩
    simp [Value.cells] at hu
    subst hu
    rfl
theorem slo_ins {l : List Int} {v : Value} {fp : List Nat} (h : V w R σ (.slo 1 (l.map (.int .i64))) v fp) : (v = .slice none 0 0 ∧ l = [] ∧ fp = []) ∨
    ∃ g cap cur e lo hi, v = .slice (some ⟨g, 0, none⟩) l.length cap ∧ w.heap[g]? = some (.cells cur e (lo, hi)) ∧ ((lo = 0 ∧ hi = 0) ∨ cur.size ≤ lo) ∧ l.length ≤ cap ∧ cap ≤ maxLen ∧ cur.size = cap ∧ cur.toList.take l.length = l.map encI ∧ fp = [g] := by
  simp only [V] at h
  obtain ⟨us, fp', hrow, hes, rfl⟩ := h
  obtain ⟨rfl, rfl⟩ := es_ins hes
  rcases hrow.2 with ⟨rfl, hl⟩ | ⟨g, cap, cur, e, lo, hi, rfl, h1, h2, h3, h4, h5, h6⟩
  · exact .inl ⟨rfl, by simpa using hl, rfl⟩
  · refine .inr ⟨g, cap, cur, e, lo, hi, by simp, h1, h2, by simpa using h3, h4, by simpa using h5, by simpa using h6, rfl⟩
theorem slo_ins_mk {m : List Int} {g cap : Nat} {cur : Array Value} {e : TypeId} {lo hi : Nat} (h1 : w.heap[g]? = some (.cells cur e (lo, hi))) (h2 : (lo = 0 ∧ hi = 0) ∨ cur.size ≤ lo) (h3 : m.length ≤ cap) (h4 : cap ≤ maxLen) (h5 : cur.size = cap) (h6 : cur.toList.take m.length = m.map encI) :
    V w R σ (.slo 1 (m.map (.int .i64))) (.slice (some ⟨g, 0, none⟩) m.length cap) [g] := by
  simp only [V]
  refine ⟨m.map encI, [], ⟨by simp, .inr ⟨g, cap, cur, e, lo, hi, by simp, h1, h2, by simpa using h3, h4, by simpa using h5, by simpa using h6⟩⟩, es_ins_mk m, rfl⟩
end
theorem put_takeI {d : Array Int} {cur : Array Value} (h : d.size ≤ cur.size) : («Sort».putCells encI 0 d cur).toList.take d.size = d.toList.map encI := by
  apply List.ext_getElem?
  intro i
  by_cases hi : i < d.size
  · have h2 : i < cur.size := by omega
    rw [List.getElem?_take_of_lt hi, Array.getElem?_toList, «Sort».putCells, Array.getElem?_mapIdx, Array.getElem?_eq_getElem h2, List.getElem?_map, Array.getElem?_toList, Array.getElem?_eq_getElem hi]
    simp [hi]
  · rw [List.getElem?_eq_none (by simp; omega), List.getElem?_eq_none (by simp; omega)]
def leInt (x y : Int) : Bool := decide (x ≤ y)
def libSortI : List PV → Option Ans
  | [.slo 1 xs] => if insAll xs = true ∧ xs.length ≤ 1099511627776 then some ⟨[some (.slo 1 (((insOf xs).mergeSort leInt).map (.int .i64)))], .tup []⟩ else none
  | _ => none
theorem libSortI_ok {G : Nat → Option (List PV)} {xs : List PV} {a : Ans} (h : libSortI xs = some a) : PCalls Tryz.prog G 85 xs a.bks a.res false := by
  unfold libSortI at h
  split at h
  case h_2 => cases h
  rename_i xs
  split at h
  case isFalse => cases h
  rename_i hx
  obtain rfl := Option.some.inj h
  rw [ins_map hx.1]
  have hlen : (insOf xs).length ≤ 1099511627776 := by have := congrArg List.length (ins_map hx.1); simp at this; omega
  rw [insOf_map]
  generalize insOf xs = l at *
  refine ⟨⟨_, Tryz.func85, by kernel_rfl, by kernel_rfl⟩, ?_⟩
  intro w R us fp hG hts hnd hfp hRb
  simp only [Ts] at hts
  obtain ⟨v, us', f1, f2, rfl, hv, ⟨rfl, rfl⟩, rfl⟩ := hts
  rw [List.append_nil] at hfp hnd
  rcases slo_ins hv with ⟨rfl, rfl, rfl⟩ | ⟨g, cap, cur, e, lo, hi, rfl, h1, h2, h3, h4, h5, h6, rfl⟩
  · refine (Tryz.slices_Sort_int_none none 0 w).mono ?_
    rintro e w' ⟨rfl, rfl⟩
    refine ⟨_, R, [], [], rfl, by simp [V, Ts], ?_, List.nodup_nil, by simp, fun b hb => hb, fun b hb => ⟨hRb b hb, .inl hb⟩, fun _ _ _ => rfl, Nat.le_refl _, ⟨rfl, fun _ => Nat.le_refl _⟩, rfl, rfl⟩
    simp only [Bs]
    refine ⟨[], [], ?_, rfl, rfl⟩
    simp [V, Es, Row]
    rfl
  · have hg : g < w.heap.size := (Array.getElem?_eq_some_iff.1 h1).1
    have hH : Holds encI w g 0 l.toArray := by
      intro j hj
      have hj : j < l.length := by simpa using hj
      have hc : cur[j]? = some (encI (l[j])) := by
        have := congrArg (fun x => x[j]?) h6
        simp only [List.getElem?_take_of_lt hj, Array.getElem?_toList, List.getElem?_map, List.getElem?_eq_getElem hj, Option.map_some] at this
        exact this
      refine ⟨?_, ?_⟩
      · simp [World.cell?, h1, hc, hj]
      · simp [World.frozen?, h1]
        omega
    refine (Tryz.slices_Sort_int g 0 cap l w hH hg (by omega)).mono ?_
    rintro e' w' ⟨rfl, n, os, rfl⟩
    have hsz : (l.mergeSort leInt).length = l.length := List.length_mergeSort _
    refine ⟨_, R, [], [g], rfl, by simp [V, Ts], ?_, by simp, ?_, fun b hb => hb, fun b hb => ⟨by rw [heap_putG_size]; have := hRb b hb; omega, .inl hb⟩, fun b hb hn => heap_putG_other hb (by simpa using hn), by rw [heap_putG_size]; omega, ⟨rfl, fun _ => Nat.le_add_right _ _⟩, rfl, rfl⟩
    · simp only [Bs]
      refine ⟨[g], [], ?_, rfl, rfl⟩
      have hh2 : (lo = 0 ∧ hi = 0) ∨ («Sort».putCells encI 0 (l.mergeSort leInt).toArray cur).size ≤ lo := by
        rcases h2 with h2 | h2
        · exact .inl h2
        · exact .inr (by simpa [«Sort».putCells] using h2)
      have hV := slo_ins_mk (R := fun b => R b ∧ (True → w.heap.size ≤ b)) (σ := fun _ => none) (m := l.mergeSort leInt) (heap_putG (enc := encI) (n := n) (os := os) (d := (l.mergeSort leInt).toArray) h1) hh2 (by omega) h4 (by simpa [«Sort».putCells] using h5)
        (by have := put_takeI (d := (l.mergeSort leInt).toArray) (cur := cur) (by simp [hsz]; omega); simpa using this)
      rw [hsz] at hV
      exact hV
    · intro b hb
      simp at hb
      subst hb
      exact ⟨by rw [heap_putG_size]; omega, (hfp b (by simp)).2, .inl (by simp)⟩
def libCompactI : List PV → Option Ans
  | [.slo 1 xs] => if insAll xs = true ∧ xs.length ≤ 1099511627776 then some ⟨[none], .slo 1 ((Lib.compact (insOf xs)).map (.int .i64))⟩ else none
  | _ => none
theorem compactI_len (l : List Int) : (Lib.compact l).length ≤ l.length := by
  unfold Lib.compact Lib.compactUpTo
  rw [List.length_map]
  exact Nat.le_trans (List.length_filter_le _ _) (by simp)
theorem libCompactI_ok {G : Nat → Option (List PV)} {xs : List PV} {a : Ans} (h : libCompactI xs = some a) : PCalls Tryz.prog G 86 xs a.bks a.res false := by
  unfold libCompactI at h
  split at h
  case h_2 => cases h
  rename_i xs
  split at h
  case isFalse => cases h
  rename_i hx
  obtain rfl := Option.some.inj h
  rw [ins_map hx.1]
  have hlen : (insOf xs).length ≤ 1099511627776 := by have := congrArg List.length (ins_map hx.1); simp at this; omega
  rw [insOf_map]
  generalize insOf xs = l at *
  refine ⟨⟨_, Tryz.func86, by kernel_rfl, by kernel_rfl⟩, ?_⟩
  intro w R us fp hG hts hnd hfp hRb
  simp only [Ts] at hts
  obtain ⟨v, us', f1, f2, rfl, hv, ⟨rfl, rfl⟩, rfl⟩ := hts
  rw [List.append_nil] at hfp hnd
  rcases slo_ins hv with ⟨rfl, rfl, rfl⟩ | ⟨g, cap, cur, e, lo, hi, rfl, h1, h2, h3, h4, h5, h6, rfl⟩
  · refine (Tryz.slices_Compact_int_empty none 0 w).mono ?_
    rintro e w' ⟨rfl, rfl⟩
    refine ⟨_, R, [], [], rfl, ?_, by simp [Bs], List.nodup_nil, by simp, fun b hb => hb, fun b hb => ⟨hRb b hb, .inl hb⟩, fun _ _ _ => rfl, Nat.le_refl _, ⟨rfl, fun _ => Nat.le_refl _⟩, rfl, rfl⟩
    rw [show Lib.compact ([] : List Int) = [] from rfl]
    simp [V, Es, Row]
    rfl
  · have hg : g < w.heap.size := (Array.getElem?_eq_some_iff.1 h1).1
    have hH : Holds encI w g 0 l.toArray := by
      intro j hj
      have hj : j < l.length := by simpa using hj
      have hc : cur[j]? = some (encI (l[j])) := by
        have := congrArg (fun x => x[j]?) h6
        simp only [List.getElem?_take_of_lt hj, Array.getElem?_toList, List.getElem?_map, List.getElem?_eq_getElem hj, Option.map_some] at this
        exact this
      refine ⟨?_, ?_⟩
      · simp [World.cell?, h1, hc, hj]
      · simp [World.frozen?, h1]
        omega
    refine (Tryz.slices_Compact_int g 0 cap l w hH (by omega) h3).mono ?_
    rintro e' w' ⟨rfl, n, rfl⟩
    have hcl := compactI_len l
    obtain ⟨d, hd⟩ : ∃ d, d = (Lib.compact l ++ List.replicate (l.length - (Lib.compact l).length) 0).toArray := ⟨_, rfl⟩
    have hds : d.size = l.length := by rw [hd]; simp; omega
    rw [← hd, ← grow_empty (putRow encI _ _ _ _)]
    refine ⟨_, R, [g], [], rfl, ?_, by simp [Bs], by simp, ?_, fun b hb => hb, fun b hb => ⟨by rw [heap_putG_size]; have := hRb b hb; omega, .inl hb⟩, fun b hb hn => heap_putG_other hb (by simpa using hn), by rw [heap_putG_size]; omega, ⟨rfl, fun _ => Nat.le_add_right _ _⟩, rfl, rfl⟩
    · have hh2 : (lo = 0 ∧ hi = 0) ∨ («Sort».putCells encI 0 d cur).size ≤ lo := by
        rcases h2 with h2 | h2
        · exact .inl h2
        · exact .inr (by simpa [«Sort».putCells] using h2)
      have ht : («Sort».putCells encI 0 d cur).toList.take (Lib.compact l).length = (Lib.compact l).map encI := by
        have := put_takeI (d := d) (cur := cur) (by omega)
        have h7 := congrArg (List.take (Lib.compact l).length) this
        rw [List.take_take, Nat.min_eq_left (by omega)] at h7
        rw [h7, hd]
        simp [List.take_append]
      exact slo_ins_mk (heap_putG (enc := encI) (n := n) (os := #[]) (d := d) h1) hh2 (by omega) h4 (by simpa [«Sort».putCells] using h5) ht
    · intro b hb
      simp at hb
      subst hb
      exact ⟨by rw [heap_putG_size]; omega, (hfp b (by simp)).2, .inl (by simp)⟩
end Go.Proofs.YtgnggcpcijcahaaGreatDoor.PVE
