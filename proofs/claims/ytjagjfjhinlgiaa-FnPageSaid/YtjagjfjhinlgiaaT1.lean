/- Bytes, names, words. -/
import Derived.Test.YtjagjfjhinlgiaaT0
set_option linter.unusedVariables false
set_option linter.unusedSimpArgs false
set_option maxRecDepth 100000
namespace Go.Proofs.Ytjagjfjhinlgiaa.PVE
open PV
abbrev Str := List UInt8
def inB (n lo hi : Int) : Bool := decide (lo ≤ n) && decide (n ≤ hi)
def wordI (n : Int) : Bool := inB n 65 90 || inB n 97 122 || inB n 48 57
@[go_sem] theorem l1In_R (n lo hi : Int) : R S0 14 [.int .i64 n, .int .i64 lo, .int .i64 hi] = some ⟨[none, none, none], .bool (inB n lo hi)⟩ := by
  refine go14 rfl ?_; simp only [go_sem, ↓reduceIte, Nat.reduceAdd, Nat.reduceSub, Nat.reduceEqDiff, Nat.reduceLT, Nat.reduceLeDiff, Nat.reduceMul, Int.reduceNeg, Int.reduceToNat, Int.reduceEq, Int.reduceLT, Int.reduceLE, reduceCtorEq, Try.f14]
  grind [inB]
@[go_sem] theorem within_R (n lo hi : Int) : R S0 13 [.int .i64 n, .int .i64 lo, .int .i64 hi] = some ⟨[none, none, none], .bool (inB n lo hi)⟩ := by
  refine go13 rfl ?_; simp only [go_sem, ↓reduceIte, Nat.reduceAdd, Nat.reduceSub, Nat.reduceEqDiff, Nat.reduceLT, Nat.reduceLeDiff, Nat.reduceMul, Int.reduceNeg, Int.reduceToNat, Int.reduceEq, Int.reduceLT, Int.reduceLE, reduceCtorEq, Try.f13]
  grind [inB]
def foldB (b : UInt8) : UInt8 := if inB b.toNat 65 90 then UInt8.ofNat (b.toNat + 32) else b
def wordB (b : UInt8) : Bool := wordI b.toNat
theorem foldB_nat (b : UInt8) : (foldB b).toNat = if inB b.toNat 65 90 then b.toNat + 32 else b.toNat := by
  unfold foldB
  split
  · rename_i h
    simp [inB] at h
    simp
    omega
  · rfl
@[go_sem] theorem l1Small_R (b : UInt8) : R S0 81 [.int .u8 b.toNat] = some ⟨[none], .int .u8 (foldB b).toNat⟩ := by
  refine go81 rfl ?_; simp only [go_sem, ↓reduceIte, Nat.reduceAdd, Nat.reduceSub, Nat.reduceEqDiff, Nat.reduceLT, Nat.reduceLeDiff, Nat.reduceMul, Int.reduceNeg, Int.reduceToNat, Int.reduceEq, Int.reduceLT, Int.reduceLE, reduceCtorEq, Try.f81]
  rw [foldB_nat, IntKind.wrap_u8]
  have := b.toNat_lt
  grind [inB]
@[go_sem] theorem l1Part_R (b : UInt8) : R S0 79 [.int .u8 b.toNat] = some ⟨[none], .bool (wordB b)⟩ := by
  refine go79 rfl ?_; simp only [go_sem, ↓reduceIte, Nat.reduceAdd, Nat.reduceSub, Nat.reduceEqDiff, Nat.reduceLT, Nat.reduceLeDiff, Nat.reduceMul, Int.reduceNeg, Int.reduceToNat, Int.reduceEq, Int.reduceLT, Int.reduceLE, reduceCtorEq, Try.f79]
  rw [foldB_nat]
  grind [inB, wordB, wordI]
def nameL : Nat → Str → Bool
  | _, [] => true
  | i, b :: l => (inB b.toNat 97 122 || (i != 0 && inB b.toNat 48 57)) && nameL (i + 1) l
def nameOk (s : Str) : Bool := nameL 0 s && inB s.length 1 8
@[go_sem] theorem specNameOk_R (s : Str) (hs : s.length ≤ 1099511627776) : R S0 48 [.str s] = some ⟨[none], .bool (nameOk s)⟩ := by
  refine go48 rfl ?_; simp only [go_sem, ↓reduceIte, Nat.reduceAdd, Nat.reduceSub, Nat.reduceEqDiff, Nat.reduceLT, Nat.reduceLeDiff, Nat.reduceMul, Int.reduceNeg, Int.reduceToNat, Int.reduceEq, Int.reduceLT, Int.reduceLE, reduceCtorEq, Try.f48]
  refine ends_for s.length (by omega) (fun i _ => mkSt [(0, .str s), (3, .int .i64 i)] []) (fun i _ => nameL i (s.drop i) = nameL 0 s) 0 () (by omega) rfl ?_ ?_
  · intro i _ hi hI hw ih
    rw [drop_getD hi 0, nameL] at hI
    simp only [go_sem, ↓reduceIte, Nat.reduceAdd, Nat.reduceSub, Nat.reduceEqDiff, Nat.reduceLT, Nat.reduceLeDiff, Nat.reduceMul, Int.reduceNeg, Int.reduceToNat, Int.reduceEq, Int.reduceLT, Int.reduceLE, reduceCtorEq, hi, hw]
    have ih := ih ()
    generalize Ends S0 _ _ _ = Q at ih ⊢
    grind [nameOk, inB]
  · intro _ hI
    simp only [go_sem, ↓reduceIte, Nat.reduceAdd, Nat.reduceSub, Nat.reduceEqDiff, Nat.reduceLT, Nat.reduceLeDiff, Nat.reduceMul, Int.reduceNeg, Int.reduceToNat, Int.reduceEq, Int.reduceLT, Int.reduceLE, reduceCtorEq]
    grind [nameOk, nameL]
def isWord (s : Str) : Bool := s.all wordB && s != []
def foldS (s : Str) : Str := s.map foldB
theorem foldS_length (s : Str) : (foldS s).length = s.length := by simp [foldS]
@[go_sem] theorem specFold_R (s : Str) (hs : s.length ≤ 1099511627776) : R S0 78 [.str s] = some ⟨[none], .str (foldS s)⟩ := by
  refine go78 rfl ?_; simp only [go_sem, ↓reduceIte, Nat.reduceAdd, Nat.reduceSub, Nat.reduceEqDiff, Nat.reduceLT, Nat.reduceLeDiff, Nat.reduceMul, Int.reduceNeg, Int.reduceToNat, Int.reduceEq, Int.reduceLT, Int.reduceLE, reduceCtorEq, Try.f78]
  refine ends_for s.length (by omega) (fun i l => mkSt [(0, .str s), (3, .own 0), (4, .int .i64 i)] [.slo 1 (l.map bytePV)]) (fun i l => l = (s.take i).map foldB) 0 [] (by omega) (by simp) ?_ ?_
  · intro i l hi hI hw ih
    obtain ⟨b, hb, hg, hd⟩ := drop_get hi 0
    have hl : l.length = i := by rw [hI]; simp; omega
    have h1 : i + 1 ≤ 140737488355328 := by omega
    simp only [go_sem, ↓reduceIte, Nat.reduceAdd, Nat.reduceSub, Nat.reduceEqDiff, Nat.reduceLT, Nat.reduceLeDiff, Nat.reduceMul, Int.reduceNeg, Int.reduceToNat, Int.reduceEq, Int.reduceLT, Int.reduceLE, reduceCtorEq, hi, hw, hg, hl, h1]
    refine ih _ ?_
    rw [hI, List.take_add_one, hb]
    simp
  · intro l hI
    simp only [go_sem, ↓reduceIte, Nat.reduceAdd, Nat.reduceSub, Nat.reduceEqDiff, Nat.reduceLT, Nat.reduceLeDiff, Nat.reduceMul, Int.reduceNeg, Int.reduceToNat, Int.reduceEq, Int.reduceLT, Int.reduceLE, reduceCtorEq]
    rw [hI]
    simp [foldS]
def stops : List Str := [[97], [97, 110], [97, 110, 100], [111, 102], [116, 104, 101], [116, 111]]
def cut1 (w : Str) : Str := if w.length > 3 ∧ w.getD (w.length - 1) 0 = 115 ∧ w.getD (w.length - 2) 0 ≠ 115 then w.take (w.length - 1) else w
def stem (s : Str) : Str := if stops.contains (cut1 ((foldS s).take 12)) then [] else cut1 ((foldS s).take 12)
@[go_sem] theorem l1Stop_R (s : Str) : R S0 80 [.str s] = some ⟨[none], .bool (stops.contains s)⟩ := by
  refine go80 rfl ?_; simp only [go_sem, ↓reduceIte, Nat.reduceAdd, Nat.reduceSub, Nat.reduceEqDiff, Nat.reduceLT, Nat.reduceLeDiff, Nat.reduceMul, Int.reduceNeg, Int.reduceToNat, Int.reduceEq, Int.reduceLT, Int.reduceLE, reduceCtorEq, Try.f80]
  refine ends_for stops.length (by decide) (fun i _ => mkSt [(0, .str s), (3, .own 0), (4, .int .i64 i)] [.slo 1 (stops.map .str)]) (fun i _ => s ∉ stops.take i) 0 () (by omega) (by simp) ?_ ?_
  · intro i _ hi hI hw ih
    obtain ⟨x, hx, _, hd⟩ := drop_get hi []
    have hlx : stops = stops.take i ++ x :: stops.drop (i + 1) := by rw [← hd, List.take_append_drop]
    simp only [go_sem, ↓reduceIte, Nat.reduceAdd, Nat.reduceSub, Nat.reduceEqDiff, Nat.reduceLT, Nat.reduceLeDiff, Nat.reduceMul, Int.reduceNeg, Int.reduceToNat, Int.reduceEq, Int.reduceLT, Int.reduceLE, reduceCtorEq, hi, hw, hx]
    refine ⟨fun h => ?_, fun h => ih () ?_⟩
    · subst h
      rw [hlx]; simp
    · rw [List.take_add_one, hx]
      simp [hI, Ne.symm h]
  · intro _ hI
    simp only [go_sem, ↓reduceIte, Nat.reduceAdd, Nat.reduceSub, Nat.reduceEqDiff, Nat.reduceLT, Nat.reduceLeDiff, Nat.reduceMul, Int.reduceNeg, Int.reduceToNat, Int.reduceEq, Int.reduceLT, Int.reduceLE, reduceCtorEq]
    simp at hI
    simp [hI]
theorem byte_eq (b c : UInt8) {m : Int} (h : m = c.toNat) : ((b.toNat : Int) = m) = (b = c) := by
  subst h
  refine propext ⟨fun h => UInt8.toNat_inj.1 (by omega), fun h => by rw [h]⟩
theorem cut_take {α : Type} (l : List α) (n : Nat) : cut l 0 (n : Int) = l.take n := by simp [cut]
theorem cut_drop {α : Type} (l : List α) (n : Nat) : cut l (n : Int) l.length = l.drop n := by
  simp only [cut, Int.toNat_natCast]
  exact List.take_of_length_le (by simp)
@[go_sem] theorem specStem_R (s : Str) (hs : s.length ≤ 1099511627776) : R S0 75 [.str s] = some ⟨[none], .str (stem s)⟩ := by
  obtain ⟨w, hw⟩ : ∃ w, (foldS s).take 12 = w := ⟨_, rfl⟩
  have hlen : w.length ≤ 12 := by rw [← hw]; simp; omega
  have e1 : 3 < w.length → IntKind.i64.wrap ((w.length : Int) - 1) = ((w.length - 1 : Nat) : Int) := fun h => by rw [wrap_in (by omega) (by omega)]; omega
  have e2 : 3 < w.length → IntKind.i64.wrap ((w.length : Int) - 2) = ((w.length - 2 : Nat) : Int) := fun h => by rw [wrap_in (by omega) (by omega)]; omega
  have b1 := fun b => byte_eq b 115 (m := 115) rfl
  unfold stem
  rw [hw]
  by_cases h12 : 12 < (foldS s).length
  · have h12' : (12 : Int) < (foldS s).length := by omega
    have hc : cut (foldS s) 0 12 = w := by rw [← hw]; exact cut_take _ 12
    by_cases h3 : 3 < w.length
    · have h3' : (3 : Int) < w.length := by omega
      have k1 : w.length - 1 < w.length := by omega
      have k2 : w.length - 2 < w.length := by omega
      refine go75 rfl ?_; simp only [go_sem, ↓reduceIte, Nat.reduceAdd, Nat.reduceSub, Nat.reduceEqDiff, Nat.reduceLT, Nat.reduceLeDiff, Nat.reduceMul, Int.reduceNeg, Int.reduceToNat, Int.reduceEq, Int.reduceLT, Int.reduceLE, reduceCtorEq, Try.f75, hs, hc, h12', e1 h3, e2 h3, h3', cut_take, k1, k2, b1]
      grind [cut1]
    · have h3' : ¬ (3 : Int) < w.length := by omega
      refine go75 rfl ?_; simp only [go_sem, ↓reduceIte, Nat.reduceAdd, Nat.reduceSub, Nat.reduceEqDiff, Nat.reduceLT, Nat.reduceLeDiff, Nat.reduceMul, Int.reduceNeg, Int.reduceToNat, Int.reduceEq, Int.reduceLT, Int.reduceLE, reduceCtorEq, Try.f75, hs, hc, h12', h3']
      grind [cut1]
  · have h12' : ¬ (12 : Int) < (foldS s).length := by omega
    have hc : foldS s = w := by rw [← hw, List.take_of_length_le (by omega)]
    by_cases h3 : 3 < w.length
    · have h3' : (3 : Int) < w.length := by omega
      have k1 : w.length - 1 < w.length := by omega
      have k2 : w.length - 2 < w.length := by omega
      rw [hc] at h12'
      refine go75 rfl ?_; simp only [go_sem, ↓reduceIte, Nat.reduceAdd, Nat.reduceSub, Nat.reduceEqDiff, Nat.reduceLT, Nat.reduceLeDiff, Nat.reduceMul, Int.reduceNeg, Int.reduceToNat, Int.reduceEq, Int.reduceLT, Int.reduceLE, reduceCtorEq, Try.f75, hs, hc, h12', e1 h3, e2 h3, h3', cut_take, k1, k2, b1]
      grind [cut1]
    · have h3' : ¬ (3 : Int) < w.length := by omega
      rw [hc] at h12'
      refine go75 rfl ?_; simp only [go_sem, ↓reduceIte, Nat.reduceAdd, Nat.reduceSub, Nat.reduceEqDiff, Nat.reduceLT, Nat.reduceLeDiff, Nat.reduceMul, Int.reduceNeg, Int.reduceToNat, Int.reduceEq, Int.reduceLT, Int.reduceLE, reduceCtorEq, Try.f75, hs, hc, h12', h3']
      grind [cut1]
def splitB (c : UInt8) : Str → List Str
  | [] => [[]]
  | b :: s => if b = c then [] :: splitB c s else match splitB c s with
    | [] => [[b]]
    | p :: ps => (b :: p) :: ps
theorem splitB_ne (c : UInt8) (s : Str) : splitB c s ≠ [] := by
  cases s with
  | nil => simp [splitB]
  | cons b s =>
    simp only [splitB]
    split
    · simp
    · split <;> simp
theorem splitB_length (c : UInt8) (s : Str) : (splitB c s).length = s.count c + 1 := by
  induction s with
  | nil => rfl
  | cons b s ih =>
    simp only [splitB]
    split
    · rename_i h; subst h; simp [ih]
    · rename_i h
      have : (b == c) = false := by simpa using h
      split
      · rename_i h2; exact absurd h2 (splitB_ne c s)
      · rename_i p ps h2
        rw [h2] at ih
        simp [List.count_cons, this] at ih ⊢
        exact ih
theorem split_none {c : UInt8} {s : Str} (h : s.count c = 0) : splitB c s = [s] := by
  induction s with
  | nil => rfl
  | cons b s ih =>
    have hb : ¬ b = c := by rintro rfl; simp at h
    have h2 : s.count c = 0 := by
      have : (b == c) = false := by simpa using hb
      simpa [List.count_cons, this] using h
    simp only [splitB, hb, if_false, ih h2]
/-- Where the first one stands. -/
theorem split_first {c : UInt8} {s : Str} (h : 0 < s.count c) : ∃ m : Nat, Lib.indexByte s c = m ∧ m < s.length ∧ splitB c s = s.take m :: splitB c (s.drop (m + 1)) ∧ s.count c = (s.drop (m + 1)).count c + 1 := by
  induction s with
  | nil => simp at h
  | cons b s ih =>
    by_cases hb : b = c
    · subst hb
      refine ⟨0, by simp [Lib.indexByte], by simp, by simp [splitB], by simp⟩
    · have hbc : (b == c) = false := by simpa using hb
      have h2 : 0 < s.count c := by simpa [List.count_cons, hbc] using h
      obtain ⟨m, h3, h4, h5, h6⟩ := ih h2
      refine ⟨m + 1, ?_, by simpa using h4, ?_, by simpa [List.count_cons, hbc] using h6⟩
      · have hne : ¬ ((m : Int) == -1) = true := by simp
        simp [Lib.indexByte, hbc, h3, hne]
      · simp only [splitB, hb, if_false, h5]
        simp
end Go.Proofs.Ytjagjfjhinlgiaa.PVE
