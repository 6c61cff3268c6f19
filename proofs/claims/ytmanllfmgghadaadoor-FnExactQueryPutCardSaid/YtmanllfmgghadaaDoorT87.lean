/- The reference's reader of questions: any text; the text of a question. -/
import Derived.Test.YtmanllfmgghadaaDoorT86
set_option linter.unusedVariables false
set_option linter.unusedSimpArgs false
set_option maxRecDepth 100000
namespace Go.Proofs.YtmanllfmgghadaaDoor.PVE
open PV Query
theorem MInv.next {B d : Nat} {s : Str} {a : Nat} {K : Int} {sg : Str} {acc : List Query} {b : Nat} (h : MInv B d s a K sg acc b) (hb : begM sg (s.drop b) = true) {K' : Int} {sg' : Str} {p : Query} {ps : List Query} {r : Str} (hM : MH d s a K' sg' p ps r) : ∃ x r', okQ d x = true ∧ s.drop (b + sg.length) = putQ x ++ r' ∧ Dl r' := by
  obtain ⟨i1, i2, i3, i4, i5, i6⟩ := h
  obtain ⟨rfl, rfl, n, n1, n2, n3, n4⟩ := i6 K' sg' p ps r hM
  obtain ⟨m1, m2, m3, m4, m5, m6, m7⟩ := hM
  cases hd : ps.drop n with
  | nil =>
    exfalso
    rw [n4, hd] at hb
    rcases m1 with ⟨_, rfl⟩ | ⟨_, rfl⟩
    · rw [show tailT [32] [] ++ 41 :: r = 41 :: r from rfl, begM_cons] at hb; simp at hb
    · rw [show tailT [32, 124, 32] [] ++ 41 :: r = 41 :: r from rfl] at hb
      simp [begM] at hb
  | cons x l =>
    have hx : ps[n]? = some x := by
      have := congrArg (fun y => y[0]?) hd
      simpa using this
    rw [hd, tailT_cons, List.append_assoc, List.append_assoc] at n4
    exact ⟨x, _, m5 x (List.mem_of_getElem? hx), by rw [← List.drop_drop, n4, List.drop_left], tail_dl (by rcases m1 with ⟨_, h⟩ | ⟨_, h⟩; exact .inl h; exact .inr h) l r⟩
end Go.Proofs.YtmanllfmgghadaaDoor.PVE
