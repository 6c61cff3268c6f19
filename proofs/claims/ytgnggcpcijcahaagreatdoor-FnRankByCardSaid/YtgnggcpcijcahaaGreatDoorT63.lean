/- The program's comparison of hits, and its sort; the ranking. -/
import Derived.Test.YtgnggcpcijcahaaGreatDoorT62
set_option linter.unusedVariables false
set_option linter.unusedSimpArgs false
set_option maxRecDepth 100000
namespace Go.Proofs.YtgnggcpcijcahaaGreatDoor.PVE
open PV Query
open Go.RowKit Go.Lib Go.Sort Go.Shelf
def cmpI (a b : Int) : Int := if a < b then -1 else if a = b then 0 else 1
@[go_sem] theorem isNaNI_C (s : Int) : R SC 123 [.int .i64 s] = some ⟨[none], .bool false⟩ := by
  refine goC123 rfl ?_
  simp only [go_sem, ↓reduceIte, Nat.reduceAdd, Nat.reduceSub, Nat.reduceEqDiff, Nat.reduceLT, Nat.reduceLeDiff, Nat.reduceMul, Int.reduceNeg, Int.reduceToNat, Int.reduceEq, Int.reduceLT, Int.reduceLE, reduceCtorEq, Tryz.f123]
@[go_sem] theorem compareI_C (a b : Int) : R SC 69 [.int .i64 a, .int .i64 b] = some ⟨[none, none], .int .i64 (cmpI a b)⟩ := by
  refine goC69 rfl ?_
  by_cases h : a < b
  · simp only [go_sem, ↓reduceIte, Nat.reduceAdd, Nat.reduceSub, Nat.reduceEqDiff, Nat.reduceLT, Nat.reduceLeDiff, Nat.reduceMul, Int.reduceNeg, Int.reduceToNat, Int.reduceEq, Int.reduceLT, Int.reduceLE, reduceCtorEq, Tryz.f69, h]
    simp [cmpI, h]
  · by_cases he : a = b
    · subst he
      simp only [go_sem, ↓reduceIte, Nat.reduceAdd, Nat.reduceSub, Nat.reduceEqDiff, Nat.reduceLT, Nat.reduceLeDiff, Nat.reduceMul, Int.reduceNeg, Int.reduceToNat, Int.reduceEq, Int.reduceLT, Int.reduceLE, reduceCtorEq, Tryz.f69, h]
      simp [cmpI]
    · simp only [go_sem, ↓reduceIte, Nat.reduceAdd, Nat.reduceSub, Nat.reduceEqDiff, Nat.reduceLT, Nat.reduceLeDiff, Nat.reduceMul, Int.reduceNeg, Int.reduceToNat, Int.reduceEq, Int.reduceLT, Int.reduceLE, reduceCtorEq, Tryz.f69, h, he]
      simp [cmpI, h, he]
      omega
structure HC where
  d : Int
  k : Str
  s : Int
instance : Inhabited HC := ⟨⟨0, [], 0⟩⟩
def HC.enc (x : HC) : List Value := [.int .i64 x.d, .string ⟨x.k.toArray⟩, .int .i64 x.s]
def HC.key (x : HC) : Int × Str := (x.s, x.k)
attribute [local instance] dmYes in
theorem hitKey_pv (h : Hit) : hitKey h.pv = hk h := rfl
def sortH (l : List Hit) : List Hit := match l with
  | [] => []
  | h :: l => putHit (sortH l) h
theorem sortH_perm : ∀ l : List Hit, (sortH l).Perm l
  | [] => .rfl
  | h :: l => by rw [sortH]; exact (putHit_perm _ _).trans ((sortH_perm l).cons h)
theorem sortH_sorted : ∀ {l : List Hit}, l.Pairwise (fun a b => hk a ≠ hk b) → SortedH (sortH l)
  | [], _ => by simp [sortH, SortedH]
  | h :: l, hp => by
    rw [List.pairwise_cons] at hp
    rw [sortH]
    exact putHit_sorted (sortH_sorted hp.2) fun x hx => (hp.1 x ((sortH_perm l).mem_iff.1 hx)).symm
theorem sortedH_eq {l m : List Hit} (h : l.Perm m) (hl : SortedH l) (hm : SortedH m) : l = m :=
  sorted_eq (r := fun a b => hitLt (hk a) (hk b) = true) (fun a h => by rw [hitLt_irr] at h; cases h) (fun a b h1 h2 => by have := hitLt_trans h1 h2; rw [hitLt_irr] at this; cases this) h hl hm
end Go.Proofs.YtgnggcpcijcahaaGreatDoor.PVE
