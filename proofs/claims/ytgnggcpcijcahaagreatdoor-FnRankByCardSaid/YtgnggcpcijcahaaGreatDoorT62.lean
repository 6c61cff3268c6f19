/- The ranking: plain laws of its order. -/
import Derived.Test.YtgnggcpcijcahaaGreatDoorT61
import Derived.Test.YtgnggcpcijcahaaGreatDoorL6
set_option linter.unusedVariables false
set_option linter.unusedSimpArgs false
set_option maxRecDepth 100000
namespace Go.Proofs.YtgnggcpcijcahaaGreatDoor.PVE
open PV Query
open Go.Sort
@[go_sem] theorem Hit.snoc (l : List Hit) (a : Int) (k : Str) (s : Int) : l.map Hit.pv ++ [.agg [.int .i64 a, .str k, .int .i64 s]] = (l ++ [Hit.mk a k s]).map Hit.pv := by simp [Hit.pv]
def hk (h : Hit) : Int × Str := (h.score, h.key)
theorem ahead_lt (h x : Hit) : ahead h x = hitLt (hk x) (hk h) := rfl
theorem hitLt_iff {a b : Int × Str} : hitLt a b = true ↔ b.1 < a.1 ∨ (a.1 = b.1 ∧ a.2 < b.2) := by simp [hitLt, bl_def]
theorem hitLt_tri (a b : Int × Str) : hitLt a b = true ∨ a = b ∨ hitLt b a = true := by
  rw [hitLt_iff, hitLt_iff]
  rcases Int.lt_trichotomy a.1 b.1 with h | h | h
  · exact .inr (.inr (.inl h))
  · rcases sLt_tri a.2 b.2 with k | k | k
    · exact .inl (.inr ⟨h, k⟩)
    · exact .inr (.inl (Prod.ext h k))
    · exact .inr (.inr (.inr ⟨h.symm, k⟩))
  · exact .inl (.inl h)
theorem hitLt_irr (a : Int × Str) : hitLt a a = false := by
  cases h : hitLt a a with
  | false => rfl
  | true => 
    rcases hitLt_iff.1 h with h | ⟨_, h⟩
    · omega
    · exact absurd h (List.lt_irrefl _)
theorem hitLt_trans {a b c : Int × Str} (h1 : hitLt a b = true) (h2 : hitLt b c = true) : hitLt a c = true := by
  rw [hitLt_iff] at *
  rcases h1 with h1 | ⟨e1, h1⟩ <;> rcases h2 with h2 | ⟨e2, h2⟩
  · exact .inl (by omega)
  · exact .inl (by omega)
  · exact .inl (by omega)
  · exact .inr ⟨e1.trans e2, List.lt_trans h1 h2⟩
theorem hitLt_swo : SWO hitLt where
  irrefl x := hitLt_irr x
  trans x y z h1 h2 := hitLt_trans h1 h2
  ntrans x y z h1 h2 := by
    cases hc : hitLt x z with
    | false => rfl
    | true =>
      exfalso
      rcases hitLt_tri x y with k | k | k
      · rw [k] at h1; cases h1
      · subst k; rw [hc] at h2; cases h2
      · rw [hitLt_trans k hc] at h2; cases h2
theorem takeWhile_split {α : Type} (p : α → Bool) : ∀ l : List α, l.take (l.takeWhile p).length = l.takeWhile p ∧ l.drop (l.takeWhile p).length = l.dropWhile p
  | [] => ⟨rfl, rfl⟩
  | a :: l => by
    cases h : p a with
    | true =>
      have ih := takeWhile_split p l
      simp only [List.takeWhile_cons, h, if_true, List.length_cons, List.take_succ_cons, List.drop_succ_cons, ih.1, ih.2, List.dropWhile_cons, and_self]
    | false => simp [List.takeWhile_cons, List.dropWhile_cons, h]
theorem putHit_is (l : List Hit) (h : Hit) : putHit l h = l.takeWhile (ahead h) ++ h :: l.dropWhile (ahead h) := by
  have := takeWhile_split (ahead h) l
  rw [putHit, putK, this.1, this.2]
theorem putHit_perm (l : List Hit) (h : Hit) : (putHit l h).Perm (h :: l) := by
  rw [putHit_is]
  refine List.perm_middle.trans ?_
  rw [List.takeWhile_append_dropWhile]
def SortedH (l : List Hit) : Prop := l.Pairwise fun a b => hitLt (hk a) (hk b) = true
theorem putHit_sorted {h : Hit} : ∀ {l : List Hit}, SortedH l → (∀ x ∈ l, hk x ≠ hk h) → SortedH (putHit l h)
  | [], _, _ => by rw [putHit_is]; simp [SortedH]
  | a :: l, hs, hne => by
    rw [SortedH, List.pairwise_cons] at hs
    rw [putHit_is]
    cases c : ahead h a with
    | true =>
      have ih := putHit_sorted (h := h) (l := l) hs.2 fun x hx => hne x (by simp [hx])
      rw [putHit_is] at ih
      simp only [List.takeWhile_cons, c, if_true, List.dropWhile_cons, List.cons_append]
      rw [SortedH, List.pairwise_cons]
      refine ⟨fun x hx => ?_, ih⟩
      rw [← putHit_is] at hx
      rcases List.mem_cons.1 ((putHit_perm l h).mem_iff.1 hx) with rfl | hx
      · exact c
      · exact hs.1 x hx
    | false =>
      simp only [List.takeWhile_cons, c, List.dropWhile_cons, List.nil_append, Bool.false_eq_true, if_false]
      have hlt : hitLt (hk h) (hk a) = true := by
        rcases hitLt_tri (hk h) (hk a) with k | k | k
        · exact k
        · exact absurd k.symm (hne a (by simp))
        · rw [← ahead_lt, c] at k; cases k
      rw [SortedH, List.pairwise_cons]
      refine ⟨fun x hx => ?_, List.pairwise_cons.2 hs⟩
      rcases List.mem_cons.1 hx with rfl | hx
      · exact hlt
      · exact hitLt_trans hlt (hs.1 x hx)
end Go.Proofs.YtgnggcpcijcahaaGreatDoor.PVE
