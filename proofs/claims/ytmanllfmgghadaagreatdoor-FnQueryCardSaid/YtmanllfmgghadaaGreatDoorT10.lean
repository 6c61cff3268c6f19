/- The plain law of a question's terms: sorted and each once, both ways. -/
import Derived.Test.YtmanllfmgghadaaGreatDoorT9
import Derived.Sort.Walk0
set_option linter.unusedVariables false
set_option linter.unusedSimpArgs false
set_option maxRecDepth 100000
namespace Go.Proofs.YtmanllfmgghadaaGreatDoor.PVE
open PV Query
theorem nameOk_len {s : Str} (h : nameOk s = true) : s.length ≤ 8 := by
  simp only [nameOk, inB, Bool.and_eq_true, decide_eq_true_eq] at h
  omega
theorem wordsOk_len {s : Str} {a b : Int} (h : wordsOk s a b = true) : s.length ≤ 60 := by
  simp only [wordsOk, inB, Bool.and_eq_true, decide_eq_true_eq] at h
  exact h.2
theorem nodeOk_len {q : Query} (h : nodeOk q = true) : q.field.length ≤ 8 ∧ q.text.length ≤ 60 ∧ q.parts.length ≤ 4 := by
  unfold nodeOk at h
  have hf : ∀ f : Str, (decide (f = []) || nameOk f) = true → f.length ≤ 8 := by
    intro f hf
    rcases (Bool.or_eq_true _ _).mp hf with h | h
    · have : f = [] := by simpa using h
      subst this; simp
    · exact nameOk_len h
  split at h
  · rename_i hp
    rw [hp]
    simp only [leafOk] at h
    split at h
    · simp only [Bool.and_eq_true, decide_eq_true_eq] at h
      rw [h.1.1, h.1.2]; simp
    split at h
    · simp only [Bool.and_eq_true] at h
      exact ⟨hf _ h.1.1.1, wordsOk_len h.1.1.2, by simp⟩
    split at h
    · simp only [Bool.and_eq_true] at h
      exact ⟨hf _ h.1.1, wordsOk_len h.1.2, by simp⟩
    split at h
    · simp only [Bool.and_eq_true, decide_eq_true_eq] at h
      exact ⟨hf _ h.1.1.1.1, by omega, by simp⟩
    split at h
    · simp only [Bool.and_eq_true, decide_eq_true_eq] at h
      rw [h.1.1.2]
      exact ⟨nameOk_len h.1.1.1, by simp, by simp⟩
    split at h
    · simp only [Bool.and_eq_true] at h
      have := nameOk_len h.1.2
      exact ⟨nameOk_len h.1.1, by omega, by simp⟩
    · cases h
  · simp only [Bool.and_eq_true, Bool.or_eq_true, decide_eq_true_eq, inB] at h
    rw [h.1.1.1.2, h.1.1.2]
    refine ⟨by simp, by simp, ?_⟩
    omega
end Go.Proofs.YtmanllfmgghadaaGreatDoor.PVE
