/- The rows' common part for indexes as arguments. -/
import Derived.Test.YtmanllfmgghadaaGreatDoorC1
import Derived.Test.YtmanllfmgghadaaGreatDoorT71
namespace Go.Proofs.YtmanllfmgghadaaGreatDoor.PVE
open PV
set_option linter.unusedVariables false
set_option linter.unusedSimpArgs false
set_option maxRecDepth 100000
theorem int_rng {n : Nat} {x : PV} (h : Ty Tryz.prog n 3 x) : ∃ i : Int, x = .int .i64 i ∧ -9223372036854775808 ≤ i ∧ i ≤ 9223372036854775807 := by
  cases n with
  | zero => exact h.elim
  | succ n =>
    simp only [Ty, Tryz.underlying3] at h
    obtain ⟨i, rfl, hw⟩ := h
    simp only [Lit.wf, Bool.and_eq_true, decide_eq_true_eq] at hw
    have h1 : IntKind.i64.min = -9223372036854775808 := by decide +kernel
    have h2 : IntKind.i64.max = 9223372036854775807 := by decide +kernel
    exact ⟨i, rfl, by omega, by omega⟩
theorem ints_of {n : Nat} {x : PV} (h : Ty Tryz.prog n 27 x) : ∃ l : List Int, x = .sl (l.map (PV.int .i64)) ∧ l.length ≤ 9223372036854775807 := by
  cases n with
  | zero => exact h.elim
  | succ n =>
    simp only [Ty, Tryz.underlying27] at h
    obtain ⟨es, rfl, hl, hf⟩ := h
    obtain ⟨l, rfl, _⟩ := lift_with (f := PV.int .i64) (Q := fun _ => True) fun x hx => by
      obtain ⟨i, rfl, _⟩ := int_rng (hf x hx)
      exact ⟨i, rfl, trivial⟩
    exact ⟨l, rfl, by simpa [maxLen] using hl⟩
theorem row_of {n : Nat} {x : PV} (h : Ty Tryz.prog n 152 x) : ∃ r : DRow, x = r.pvF ∧ RLm r := by
  cases n with
  | zero => exact h.elim
  | succ n =>
    simp only [Ty, Tryz.underlying152] at h
    obtain ⟨ps, rfl, hl, hf⟩ := h
    match ps, hl with
    | [p0, p1], _ =>
      obtain ⟨i, rfl, _⟩ := int_rng (hf 0 _ p0 rfl rfl)
      obtain ⟨d, rfl, hd⟩ := doc_of _ _ (hf 1 _ p1 rfl rfl)
      exact ⟨⟨i, d⟩, rfl, hd⟩
theorem post_of {n : Nat} {x : PV} (h : Ty Tryz.prog n 231 x) : ∃ p : Post, x = p.pvF ∧ PLm p := by
  cases n with
  | zero => exact h.elim
  | succ n =>
    simp only [Ty, Tryz.underlying231] at h
    obtain ⟨ps, rfl, hl, hf⟩ := h
    match ps, hl with
    | [p0, p1], _ =>
      obtain ⟨i, rfl, _⟩ := int_rng (hf 0 _ p0 rfl rfl)
      obtain ⟨l, rfl, hl2⟩ := ints_of (hf 1 _ p1 rfl rfl)
      exact ⟨⟨i, l⟩, rfl, hl2⟩
theorem entry_of {n : Nat} {x : PV} (h : Ty Tryz.prog n 156 x) : ∃ e : Entry, x = e.pvF ∧ ELm e := by
  cases n with
  | zero => exact h.elim
  | succ n =>
    simp only [Ty, Tryz.underlying156] at h
    obtain ⟨ps, rfl, hl, hf⟩ := h
    match ps, hl with
    | [p0, p1, p2], _ =>
      obtain ⟨s, rfl, hs⟩ := str_of (hf 0 _ p0 rfl rfl)
      obtain ⟨t, rfl, ht⟩ := str_of (hf 1 _ p1 rfl rfl)
      have h5 := hf 2 _ p2 rfl rfl
      cases n with
      | zero => exact h5.elim
      | succ n =>
        simp only [Ty, Tryz.underlying154] at h5
        obtain ⟨es, rfl, hl, he⟩ := h5
        obtain ⟨l, rfl, hq⟩ := lift_with (f := Post.pvF) fun x hx => post_of (he x hx)
        exact ⟨⟨s, t, l⟩, rfl, hs, ht, by simpa [maxLen] using hl, hq⟩
theorem rows_of {n : Nat} {x : PV} (h : Ty Tryz.prog n 23 x) : ∃ l : List DRow, x = .sl (l.map DRow.pvF) ∧ (l.length ≤ 9223372036854775807 ∧ ∀ r ∈ l, RLm r) := by
  cases n with
  | zero => exact h.elim
  | succ n =>
    simp only [Ty, Tryz.underlying23] at h
    obtain ⟨es, rfl, hl, he⟩ := h
    obtain ⟨l, rfl, hq⟩ := lift_with (f := DRow.pvF) fun x hx => row_of (he x hx)
    exact ⟨l, rfl, by simpa [maxLen] using hl, hq⟩
theorem entries_of {n : Nat} {x : PV} (h : Ty Tryz.prog n 24 x) : ∃ l : List Entry, x = .sl (l.map Entry.pvF) ∧ (l.length ≤ 9223372036854775807 ∧ ∀ e ∈ l, ELm e) := by
  cases n with
  | zero => exact h.elim
  | succ n =>
    simp only [Ty, Tryz.underlying24] at h
    obtain ⟨es, rfl, hl, he⟩ := h
    obtain ⟨l, rfl, hq⟩ := lift_with (f := Entry.pvF) fun x hx => entry_of (he x hx)
    exact ⟨l, rfl, by simpa [maxLen] using hl, hq⟩
structure Ix where
  fl : List Field
  rows : List DRow
  ents : List Entry
  nx : Int
def IxLm (x : Ix) : Prop := ILm x.fl x.rows x.ents ∧ -9223372036854775808 ≤ x.nx ∧ x.nx ≤ 9223372036854775807
theorem index_of (n : Nat) (x : PV) (h : Ty Tryz.prog n 26 x) : ∃ y : Ix, x = .agg [.sl (y.fl.map Field.pv), .sl (y.rows.map DRow.pvF), .sl (y.ents.map Entry.pvF), .int .i64 y.nx] ∧ IxLm y := by
  cases n with
  | zero => exact h.elim
  | succ n =>
    simp only [Ty, Tryz.underlying26] at h
    obtain ⟨ps, rfl, hl, hf⟩ := h
    match ps, hl with
    | [p0, p1, p2, p3], _ =>
      obtain ⟨l, rfl, h1⟩ := fields_of (hf 0 _ p0 rfl rfl)
      obtain ⟨r, rfl, h2⟩ := rows_of (hf 1 _ p1 rfl rfl)
      obtain ⟨e, rfl, h3⟩ := entries_of (hf 2 _ p2 rfl rfl)
      obtain ⟨i, rfl, h4⟩ := int_rng (hf 3 _ p3 rfl rfl)
      exact ⟨⟨l, r, e, i⟩, rfl, ⟨h1, h2, h3⟩, h4⟩
end Go.Proofs.YtmanllfmgghadaaGreatDoor.PVE
