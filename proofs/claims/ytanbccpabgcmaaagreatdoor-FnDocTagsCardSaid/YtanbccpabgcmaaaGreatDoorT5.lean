/- What fits fields has a form, and so do all its parts. -/
import Derived.Test.YtanbccpabgcmaaaGreatDoorT4
set_option linter.unusedVariables false
set_option linter.unusedSimpArgs false
set_option maxRecDepth 100000
namespace Go.Proofs.YtanbccpabgcmaaaGreatDoor.PVE
open PV Query
theorem okQ_up {d : Nat} : ∀ {q : Query}, okQ d q = true → okQ (d + 1) q = true := by
  induction d with
  | zero => intro q h; cases h
  | succ d ih =>
    intro q h
    rw [okQ, Bool.and_eq_true, List.all_eq_true] at h ⊢
    exact ⟨h.1, fun p hp => ih (h.2 p hp)⟩
def fitsQ (l : List Field) (q : Query) : Bool := fieldsOk l && okQ 4 q && fitsI l q
theorem fitsQ_part {l : List Field} {q p : Query} (h : fitsQ l q = true) (hp : p ∈ q.parts) : fitsQ l p = true := by
  simp only [fitsQ, Bool.and_eq_true] at h ⊢
  obtain ⟨⟨h1, h2⟩, h3⟩ := h
  have h4 := h2
  rw [okQ, Bool.and_eq_true, List.all_eq_true] at h4
  refine ⟨⟨h1, okQ_up (h4.2 p hp)⟩, ?_⟩
  rw [fitsI_eq] at h3
  split at h3
  · rename_i hk
    rw [nodeOk_leaf h4.1 hk] at hp
    cases hp
  · exact List.all_eq_true.1 h3 p hp
@[go_sem] theorem Query.reo (q : Query) (off : Nat) (cs : List PV) : q.pvo.reElem off cs = .agg (PV.putCells [.int .i64 q.kind, .str q.field, .str q.text, .int .i64 q.low, .int .i64 q.high, .slo 6 (q.parts.map pvo)] off cs) := by rw [pvo_eq]; rfl
@[go_sem] theorem Query.setp (l : List Query) (i : Nat) (a lo hi : Int) (b c : Str) (m : List Query) : (l.map pvo).set i (.agg [.int .i64 a, .str b, .str c, .int .i64 lo, .int .i64 hi, .slo 6 (m.map pvo)]) = (l.set i (Query.mk a b c lo hi m)).map pvo := by rw [List.map_set, pvo_eq]; rfl
@[go_sem] theorem set_get {α : Type} (l : List α) (i : Nat) (a : α) (h : i < l.length) : (l.set i a)[i]? = some a := List.getElem?_set_self h
attribute [go_sem] Query.eta
theorem set_same {α : Type} {l : List α} {i : Nat} {x : α} (h : l[i]? = some x) : l.set i x = l := by
  obtain ⟨hlt, rfl⟩ := List.getElem?_eq_some_iff.1 h
  exact List.set_getElem_self hlt
end Go.Proofs.YtanbccpabgcmaaaGreatDoor.PVE
