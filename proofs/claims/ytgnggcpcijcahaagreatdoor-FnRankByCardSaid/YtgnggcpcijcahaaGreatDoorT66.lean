/- Documents by a number: the reference's way, and what stands where: plain laws. -/
import Derived.Test.YtgnggcpcijcahaaGreatDoorT65
set_option linter.unusedVariables false
set_option linter.unusedSimpArgs false
set_option maxRecDepth 100000
namespace Go.Proofs.YtgnggcpcijcahaaGreatDoor.PVE
open PV Query
theorem numDoc_none {l : List Field} {d : Doc} {n : Str} (h : (numDoc l d n).2 = false) : (numDoc l d n).1 = 0 := by
  by_cases c : docOk l d = true ∧ (docText d n).2 = true ∧ (fieldOf l n).kind = 2
  · rw [numDoc_yes c.1 c.2.1 c.2.2] at h; cases h
  · rw [numDoc_no c]
def rbTo (fl : List Field) (rows : List DRow) (q : Query) (f : Str) (down : Bool) : Nat → List Hit × List Hit
  | 0 => ([], [])
  | k + 1 =>
    if meetsM fl (rows.getD k default).doc q = true then
      if hasN fl f (rows.getD k default) = true then (putHit (rbTo fl rows q f down k).1 (sgH down (hitN fl f (rows.getD k default))), (rbTo fl rows q f down k).2)
      else ((rbTo fl rows q f down k).1, putHit (rbTo fl rows q f down k).2 (hitZ (rows.getD k default)))
    else rbTo fl rows q f down k
theorem rbTo_perm (fl : List Field) (rows : List DRow) (q : Query) (f : Str) (down : Bool) : ∀ k, k ≤ rows.length → (rbTo fl rows q f down k).1.Perm ((withN fl f ((rows.take k).filter fun r => meetsM fl r.doc q)).map (sgH down)) ∧ (rbTo fl rows q f down k).2.Perm (withZ fl f ((rows.take k).filter fun r => meetsM fl r.doc q))
  | 0, _ => by simp [rbTo, withN, withZ]
  | k + 1, hk => by
    obtain ⟨i1, i2⟩ := rbTo_perm fl rows q f down k (by omega)
    obtain ⟨r, hx, hg, _⟩ := drop_get (l := rows) (i := k) (by omega) default
    rw [rbTo, hg, List.take_add_one, hx, List.filter_append]
    cases h : meetsM fl r.doc q with
    | false =>
      rw [if_neg (by simp)]
      have e : ((some r).toList.filter fun r => meetsM fl r.doc q) = [] := by simp [h]
      rw [e, List.append_nil]
      exact ⟨i1, i2⟩
    | true =>
      rw [if_pos rfl]
      have e : ((some r).toList.filter fun r => meetsM fl r.doc q) = [r] := by simp [h]
      rw [e]
      cases hn : hasN fl f r with
      | true =>
        rw [if_pos rfl]
        have e1 : withN fl f ((rows.take k).filter (fun r => meetsM fl r.doc q) ++ [r]) = withN fl f ((rows.take k).filter fun r => meetsM fl r.doc q) ++ [hitN fl f r] := by rw [withN, List.filter_append, List.map_append, withN]; simp [hn]
        have e2 : withZ fl f ((rows.take k).filter (fun r => meetsM fl r.doc q) ++ [r]) = withZ fl f ((rows.take k).filter fun r => meetsM fl r.doc q) := by rw [withZ, List.filter_append, List.map_append, withZ]; simp [hn]
        rw [e1, e2, List.map_append]
        exact ⟨(putHit_perm _ _).trans ((i1.cons _).trans (List.perm_append_singleton _ _).symm), i2⟩
      | false =>
        rw [if_neg (by simp)]
        have e1 : withN fl f ((rows.take k).filter (fun r => meetsM fl r.doc q) ++ [r]) = withN fl f ((rows.take k).filter fun r => meetsM fl r.doc q) := by rw [withN, List.filter_append, List.map_append, withN]; simp [hn]
        have e2 : withZ fl f ((rows.take k).filter (fun r => meetsM fl r.doc q) ++ [r]) = withZ fl f ((rows.take k).filter fun r => meetsM fl r.doc q) ++ [hitZ r] := by rw [withZ, List.filter_append, List.map_append, withZ]; simp [hn]
        rw [e1, e2]
        exact ⟨i1, (putHit_perm _ _).trans ((i2.cons _).trans (List.perm_append_singleton _ _).symm)⟩
theorem rbTo_len (fl : List Field) (rows : List DRow) (q : Query) (f : Str) (down : Bool) : ∀ k, (rbTo fl rows q f down k).1.length + (rbTo fl rows q f down k).2.length ≤ k
  | 0 => by simp [rbTo]
  | k + 1 => by
    have := rbTo_len fl rows q f down k
    rw [rbTo]
    split
    · split <;> simp only [putHit_len] <;> omega
    · omega
theorem rbTo_key {fl : List Field} {rows : List DRow} {q : Query} {f : Str} {down : Bool} {k : Nat} (hk : k ≤ rows.length) {x : Hit} (hx : x ∈ (rbTo fl rows q f down k).1 ∨ x ∈ (rbTo fl rows q f down k).2) : ∃ j, j < k ∧ ∃ r, rows[j]? = some r ∧ x.key = r.doc.key := by
  obtain ⟨p1, p2⟩ := rbTo_perm fl rows q f down k hk
  have key : ∀ r ∈ (rows.take k).filter (fun r => meetsM fl r.doc q), ∃ j, j < k ∧ rows[j]? = some r := fun r hr => by
    obtain ⟨j, hj, rfl⟩ := List.getElem_of_mem (List.mem_filter.1 hr).1
    have hj2 : j < k := by simp only [List.length_take] at hj; omega
    exact ⟨j, hj2, by rw [List.getElem_take, List.getElem?_eq_getElem (by omega)]⟩
  rcases hx with hx | hx
  · obtain ⟨y, hy, rfl⟩ := List.mem_map.1 (p1.mem_iff.1 hx)
    obtain ⟨r, hr, rfl⟩ := List.mem_map.1 hy
    obtain ⟨j, hj, hx⟩ := key r (List.mem_filter.1 hr).1
    exact ⟨j, hj, r, hx, rfl⟩
  · obtain ⟨r, hr, rfl⟩ := List.mem_map.1 (p2.mem_iff.1 hx)
    obtain ⟨j, hj, hx⟩ := key r (List.mem_filter.1 hr).1
    exact ⟨j, hj, r, hx, rfl⟩
theorem rbTo_sorted {fl : List Field} {rows : List DRow} {q : Query} {f : Str} {down : Bool} (hp : rows.Pairwise (fun a b => a.doc.key ≠ b.doc.key)) : ∀ k, k ≤ rows.length → SortedH (rbTo fl rows q f down k).1 ∧ SortedH (rbTo fl rows q f down k).2
  | 0, _ => by simp [rbTo, SortedH]
  | k + 1, hk => by
    obtain ⟨i1, i2⟩ := rbTo_sorted (fl := fl) (q := q) (f := f) (down := down) hp k (by omega)
    obtain ⟨r, hx, hg, _⟩ := drop_get (l := rows) (i := k) (by omega) default
    have hne : ∀ x, (x ∈ (rbTo fl rows q f down k).1 ∨ x ∈ (rbTo fl rows q f down k).2) → x.key ≠ r.doc.key := fun x hxm he => by
      obtain ⟨j, hj, s, hs, hk2⟩ := rbTo_key (by omega) hxm
      have hk3 : k < rows.length := by omega
      have := (List.pairwise_iff_getElem.1 hp) j k (by omega) hk3 hj
      rw [List.getElem?_eq_getElem hk3] at hx
      rw [List.getElem?_eq_getElem (by omega)] at hs
      rw [Option.some.inj hx, Option.some.inj hs] at this
      exact this (hk2.symm.trans he)
    rw [rbTo, hg]
    split
    · split
      · exact ⟨putHit_sorted i1 fun x hxm hc => hne x (.inl hxm) (congrArg Prod.snd hc), i2⟩
      · exact ⟨i1, putHit_sorted i2 fun x hxm hc => hne x (.inr hxm) (congrArg Prod.snd hc)⟩
    · exact ⟨i1, i2⟩
theorem rbTo_end {fl : List Field} {rows : List DRow} {q : Query} {f : Str} {down : Bool} (hp : rows.Pairwise (fun a b => a.doc.key ≠ b.doc.key)) : (rbTo fl rows q f down rows.length).1.map (sgH down) = sortD down (withN fl f (rows.filter fun r => meetsM fl r.doc q)) ∧ (rbTo fl rows q f down rows.length).2 = sortH (withZ fl f (rows.filter fun r => meetsM fl r.doc q)) := by
  obtain ⟨p1, p2⟩ := rbTo_perm fl rows q f down rows.length (Nat.le_refl _)
  obtain ⟨s1, s2⟩ := rbTo_sorted (fl := fl) (q := q) (f := f) (down := down) hp rows.length (Nat.le_refl _)
  rw [List.take_length] at p1 p2
  have hF : (rows.filter fun r => meetsM fl r.doc q).Pairwise (fun a b => a.doc.key ≠ b.doc.key) := hp.sublist List.filter_sublist
  constructor
  · rw [sortD]
    congr 1
    exact sortedH_eq (p1.trans (sortH_perm _).symm) s1 (sortH_sorted (sg_ne (hits_ne (fun _ => rfl) hF)))
  · exact sortedH_eq (p2.trans (sortH_perm _).symm) s2 (sortH_sorted (hits_ne (fun _ => rfl) hF))
theorem filt_parts {α : Type} (p : α → Bool) : ∀ l : List α, (l.filter p).length + (l.filter fun x => !p x).length = l.length
  | [] => rfl
  | a :: l => by
    have := filt_parts p l
    cases h : p a <;> simp [h] <;> omega
theorem rankBy_len {fl : List Field} {rows : List DRow} {ents : List Entry} {nx : Int} {q : Query} {f : Str} {down : Bool} (h : askOk fl rows ents nx q = true) (hk : (fieldOf fl f).kind = 2) : (rankByS fl rows ents nx q f down).length = (findA fl rows ents nx q).length := by
  rw [rankByS, if_pos ⟨h, hk⟩, findA_ids h, idsP, List.length_append, (sortD_perm _ _).length_eq, (sortH_perm _).length_eq, withN, withZ, List.length_map, List.length_map, List.length_map]
  exact filt_parts _ _
theorem rankBy_at {fl : List Field} {rows : List DRow} {ents : List Entry} {nx : Int} {q : Query} {f : Str} {down : Bool} (h : askOk fl rows ents nx q = true) (hk : (fieldOf fl f).kind = 2) : ∃ m : Nat, m ≤ (rankByS fl rows ents nx q f down).length ∧ (∀ (i : Nat) (x : Hit), (rankByS fl rows ents nx q f down)[i]? = some x → ∃ r ∈ rows, meetsM fl r.doc q = true ∧ x.doc = r.id ∧ x.key = r.doc.key ∧ numDoc fl r.doc f = (x.score, decide (i < m))) ∧
    ∀ (i : Nat) (x y : Hit), i + 1 < m → (rankByS fl rows ents nx q f down)[i]? = some x → (rankByS fl rows ents nx q f down)[i + 1]? = some y → if down = true then y.score ≤ x.score else x.score ≤ y.score := by
  obtain ⟨c1, _, _⟩ := ask_parts h
  obtain ⟨_, hp2, _⟩ := rowsOk_iff.1 (indexOk_parts c1).1
  have hF : (rows.filter fun r => meetsM fl r.doc q).Pairwise (fun a b => a.doc.key ≠ b.doc.key) := hp2.sublist List.filter_sublist
  rw [rankByS, if_pos ⟨h, hk⟩]
  have hA := sortD_perm down (withN fl f (rows.filter fun r => meetsM fl r.doc q))
  have hZ := sortH_perm (withZ fl f (rows.filter fun r => meetsM fl r.doc q))
  have hs := sortD_sorted (down := down) (l := withN fl f (rows.filter fun r => meetsM fl r.doc q)) (hits_ne (fun _ => rfl) hF)
  generalize hAe : sortD down (withN fl f (rows.filter fun r => meetsM fl r.doc q)) = A at *
  generalize hZe : sortH (withZ fl f (rows.filter fun r => meetsM fl r.doc q)) = Z at *
  refine ⟨A.length, by rw [List.length_append]; omega, fun i x hx => ?_, fun i x y hi hx hy => ?_⟩
  · by_cases hi : i < A.length
    · rw [List.getElem?_append_left hi] at hx
      obtain ⟨r, hr, rfl⟩ := List.mem_map.1 (hA.mem_iff.1 (List.mem_of_getElem? hx))
      obtain ⟨hr1, hr2⟩ := List.mem_filter.1 hr
      obtain ⟨hr3, hr4⟩ := List.mem_filter.1 hr1
      refine ⟨r, hr3, hr4, rfl, rfl, ?_⟩
      rw [decide_eq_true hi]
      exact Prod.ext rfl hr2
    · rw [List.getElem?_append_right (by omega)] at hx
      obtain ⟨r, hr, rfl⟩ := List.mem_map.1 (hZ.mem_iff.1 (List.mem_of_getElem? hx))
      obtain ⟨hr1, hr2⟩ := List.mem_filter.1 hr
      obtain ⟨hr3, hr4⟩ := List.mem_filter.1 hr1
      have hn : (numDoc fl r.doc f).2 = false := by simpa [hasN] using hr2
      refine ⟨r, hr3, hr4, rfl, rfl, ?_⟩
      rw [decide_eq_false hi]
      exact Prod.ext (numDoc_none hn) hn
  · rw [List.getElem?_append_left (by omega)] at hx hy
    obtain ⟨h1, hx⟩ := List.getElem?_eq_some_iff.1 hx
    obtain ⟨h2, hy⟩ := List.getElem?_eq_some_iff.1 hy
    have := (List.pairwise_iff_getElem.1 hs) i (i + 1) h1 h2 (by omega)
    rw [hx, hy, ltD, hitLt_iff] at this
    cases down <;> simp [sgk, Go.Proofs.YtgnggcpcijcahaaGreatDoor.PVE.hk] at this ⊢ <;> omega
end Go.Proofs.YtgnggcpcijcahaaGreatDoor.PVE
