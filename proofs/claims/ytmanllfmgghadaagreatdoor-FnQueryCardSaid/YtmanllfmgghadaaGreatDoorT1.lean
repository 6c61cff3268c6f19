/- Bytes, names, words. -/
import Derived.Test.YtmanllfmgghadaaGreatDoorT0
set_option linter.unusedVariables false
set_option linter.unusedSimpArgs false
set_option maxRecDepth 100000
namespace Go.Proofs.YtmanllfmgghadaaGreatDoor.PVE
open PV
abbrev Str := List UInt8
def inB (n lo hi : Int) : Bool := decide (lo ≤ n) && decide (n ≤ hi)
def wordI (n : Int) : Bool := inB n 65 90 || inB n 97 122 || inB n 48 57
@[go_sem] theorem l1In_R (n lo hi : Int) : R S0 114 [.int .i64 n, .int .i64 lo, .int .i64 hi] = some ⟨[none, none, none], .bool (inB n lo hi)⟩ := by
  refine go114 rfl ?_; simp only [go_sem, ↓reduceIte, Nat.reduceAdd, Nat.reduceSub, Nat.reduceEqDiff, Nat.reduceLT, Nat.reduceLeDiff, Nat.reduceMul, Int.reduceNeg, Int.reduceToNat, Int.reduceEq, Int.reduceLT, Int.reduceLE, reduceCtorEq, Tryz.f114]
  grind [inB]
@[go_sem] theorem within_R (n lo hi : Int) : R S0 122 [.int .i64 n, .int .i64 lo, .int .i64 hi] = some ⟨[none, none, none], .bool (inB n lo hi)⟩ := by
  refine go122 rfl ?_; simp only [go_sem, ↓reduceIte, Nat.reduceAdd, Nat.reduceSub, Nat.reduceEqDiff, Nat.reduceLT, Nat.reduceLeDiff, Nat.reduceMul, Int.reduceNeg, Int.reduceToNat, Int.reduceEq, Int.reduceLT, Int.reduceLE, reduceCtorEq, Tryz.f122]
  grind [inB]
@[go_sem] theorem lower_R (n : Int) : R S0 214 [.int .u8 n] = some ⟨[none], .bool (inB n 97 122)⟩ := by
  refine go214 rfl ?_; simp only [go_sem, ↓reduceIte, Nat.reduceAdd, Nat.reduceSub, Nat.reduceEqDiff, Nat.reduceLT, Nat.reduceLeDiff, Nat.reduceMul, Int.reduceNeg, Int.reduceToNat, Int.reduceEq, Int.reduceLT, Int.reduceLE, reduceCtorEq, Tryz.f214]
  grind [inB]
@[go_sem] theorem digit_R (n : Int) : R S0 215 [.int .u8 n] = some ⟨[none], .bool (inB n 48 57)⟩ := by
  refine go215 rfl ?_; simp only [go_sem, ↓reduceIte, Nat.reduceAdd, Nat.reduceSub, Nat.reduceEqDiff, Nat.reduceLT, Nat.reduceLeDiff, Nat.reduceMul, Int.reduceNeg, Int.reduceToNat, Int.reduceEq, Int.reduceLT, Int.reduceLE, reduceCtorEq, Tryz.f215]
  grind [inB]
@[go_sem] theorem upper_R (n : Int) : R S0 216 [.int .u8 n] = some ⟨[none], .bool (inB n 65 90)⟩ := by
  refine go216 rfl ?_; simp only [go_sem, ↓reduceIte, Nat.reduceAdd, Nat.reduceSub, Nat.reduceEqDiff, Nat.reduceLT, Nat.reduceLeDiff, Nat.reduceMul, Int.reduceNeg, Int.reduceToNat, Int.reduceEq, Int.reduceLT, Int.reduceLE, reduceCtorEq, Tryz.f216]
  grind [inB]
@[go_sem] theorem wordByte_R (n : Int) : R S0 209 [.int .u8 n] = some ⟨[none], .bool (wordI n)⟩ := by
  refine go209 rfl ?_; simp only [go_sem, ↓reduceIte, Nat.reduceAdd, Nat.reduceSub, Nat.reduceEqDiff, Nat.reduceLT, Nat.reduceLeDiff, Nat.reduceMul, Int.reduceNeg, Int.reduceToNat, Int.reduceEq, Int.reduceLT, Int.reduceLE, reduceCtorEq, Tryz.f209]
  grind [wordI]
def foldB (b : UInt8) : UInt8 := if inB b.toNat 65 90 then UInt8.ofNat (b.toNat + 32) else b
def wordB (b : UInt8) : Bool := wordI b.toNat
theorem foldB_nat (b : UInt8) : (foldB b).toNat = if inB b.toNat 65 90 then b.toNat + 32 else b.toNat := by
  unfold foldB
  split
  · rename_i h
    simp [inB] at h
    simp
    omega
  · rfl
@[go_sem] theorem l1Small_R (b : UInt8) : R S0 245 [.int .u8 b.toNat] = some ⟨[none], .int .u8 (foldB b).toNat⟩ := by
  refine go245 rfl ?_; simp only [go_sem, ↓reduceIte, Nat.reduceAdd, Nat.reduceSub, Nat.reduceEqDiff, Nat.reduceLT, Nat.reduceLeDiff, Nat.reduceMul, Int.reduceNeg, Int.reduceToNat, Int.reduceEq, Int.reduceLT, Int.reduceLE, reduceCtorEq, Tryz.f245]
  rw [foldB_nat, IntKind.wrap_u8]
  have := b.toNat_lt
  grind [inB]
@[go_sem] theorem l1Part_R (b : UInt8) : R S0 206 [.int .u8 b.toNat] = some ⟨[none], .bool (wordB b)⟩ := by
  refine go206 rfl ?_; simp only [go_sem, ↓reduceIte, Nat.reduceAdd, Nat.reduceSub, Nat.reduceEqDiff, Nat.reduceLT, Nat.reduceLeDiff, Nat.reduceMul, Int.reduceNeg, Int.reduceToNat, Int.reduceEq, Int.reduceLT, Int.reduceLE, reduceCtorEq, Tryz.f206]
  rw [foldB_nat]
  grind [inB, wordB, wordI]
def nameL : Nat → Str → Bool
  | _, [] => true
  | i, b :: l => (inB b.toNat 97 122 || (i != 0 && inB b.toNat 48 57)) && nameL (i + 1) l
def nameOk (s : Str) : Bool := nameL 0 s && inB s.length 1 8
@[go_sem] theorem nameOk_R (s : Str) (hs : s.length ≤ 1099511627776) : R S0 167 [.str s] = some ⟨[none], .bool (nameOk s)⟩ := by
  refine go167 rfl ?_; simp only [go_sem, ↓reduceIte, Nat.reduceAdd, Nat.reduceSub, Nat.reduceEqDiff, Nat.reduceLT, Nat.reduceLeDiff, Nat.reduceMul, Int.reduceNeg, Int.reduceToNat, Int.reduceEq, Int.reduceLT, Int.reduceLE, reduceCtorEq, Tryz.f167]
  refine ends_for s.length (by omega) (fun i _ => mkSt [(0, .str s), (5, .int .i64 s.length), (6, .int .i64 i)] []) (fun i _ => nameL i (s.drop i) = nameL 0 s) 0 () (by omega) rfl ?_ ?_
  · intro i _ hi hI hw ih
    rw [drop_getD hi 0, nameL] at hI
    simp only [go_sem, ↓reduceIte, Nat.reduceAdd, Nat.reduceSub, Nat.reduceEqDiff, Nat.reduceLT, Nat.reduceLeDiff, Nat.reduceMul, Int.reduceNeg, Int.reduceToNat, Int.reduceEq, Int.reduceLT, Int.reduceLE, reduceCtorEq, hi, hw]
    have ih := ih ()
    generalize Ends S0 _ _ _ = Q at ih ⊢
    grind [nameOk]
  · intro _ hI
    simp only [go_sem, ↓reduceIte, Nat.reduceAdd, Nat.reduceSub, Nat.reduceEqDiff, Nat.reduceLT, Nat.reduceLeDiff, Nat.reduceMul, Int.reduceNeg, Int.reduceToNat, Int.reduceEq, Int.reduceLT, Int.reduceLE, reduceCtorEq]
    grind [nameOk, nameL]
@[go_sem] theorem specNameOk_R (s : Str) (hs : s.length ≤ 1099511627776) : R S0 175 [.str s] = some ⟨[none], .bool (nameOk s)⟩ := by
  refine go175 rfl ?_; simp only [go_sem, ↓reduceIte, Nat.reduceAdd, Nat.reduceSub, Nat.reduceEqDiff, Nat.reduceLT, Nat.reduceLeDiff, Nat.reduceMul, Int.reduceNeg, Int.reduceToNat, Int.reduceEq, Int.reduceLT, Int.reduceLE, reduceCtorEq, Tryz.f175]
  refine ends_for s.length (by omega) (fun i _ => mkSt [(0, .str s), (3, .int .i64 i)] []) (fun i _ => nameL i (s.drop i) = nameL 0 s) 0 () (by omega) rfl ?_ ?_
  · intro i _ hi hI hw ih
    rw [drop_getD hi 0, nameL] at hI
    simp only [go_sem, ↓reduceIte, Nat.reduceAdd, Nat.reduceSub, Nat.reduceEqDiff, Nat.reduceLT, Nat.reduceLeDiff, Nat.reduceMul, Int.reduceNeg, Int.reduceToNat, Int.reduceEq, Int.reduceLT, Int.reduceLE, reduceCtorEq, hi, hw]
    have ih := ih ()
    generalize Ends S0 _ _ _ = Q at ih ⊢
    grind [nameOk, inB]
  · intro _ hI
    simp only [go_sem, ↓reduceIte, Nat.reduceAdd, Nat.reduceSub, Nat.reduceEqDiff, Nat.reduceLT, Nat.reduceLeDiff, Nat.reduceMul, Int.reduceNeg, Int.reduceToNat, Int.reduceEq, Int.reduceLT, Int.reduceLE, reduceCtorEq]
    grind [nameOk, nameL]
def isWord (s : Str) : Bool := s.all wordB && s != []
@[go_sem] theorem isWord_R (s : Str) (hs : s.length ≤ 1099511627776) : R S0 170 [.str s] = some ⟨[none], .bool (isWord s)⟩ := by
  refine go170 rfl ?_; simp only [go_sem, ↓reduceIte, Nat.reduceAdd, Nat.reduceSub, Nat.reduceEqDiff, Nat.reduceLT, Nat.reduceLeDiff, Nat.reduceMul, Int.reduceNeg, Int.reduceToNat, Int.reduceEq, Int.reduceLT, Int.reduceLE, reduceCtorEq, Tryz.f170]
  refine ends_for s.length (by omega) (fun i _ => mkSt [(0, .str s), (5, .int .i64 s.length), (6, .int .i64 i)] []) (fun i _ => (s.drop i).all wordB = s.all wordB) 0 () (by omega) rfl ?_ ?_
  · intro i _ hi hI hw ih
    rw [drop_getD hi 0, List.all_cons] at hI
    simp only [go_sem, ↓reduceIte, Nat.reduceAdd, Nat.reduceSub, Nat.reduceEqDiff, Nat.reduceLT, Nat.reduceLeDiff, Nat.reduceMul, Int.reduceNeg, Int.reduceToNat, Int.reduceEq, Int.reduceLT, Int.reduceLE, reduceCtorEq, hi, hw]
    have ih := ih ()
    generalize Ends S0 _ _ _ = Q at ih ⊢
    grind [isWord, wordB]
  · intro _ hI
    simp only [go_sem, ↓reduceIte, Nat.reduceAdd, Nat.reduceSub, Nat.reduceEqDiff, Nat.reduceLT, Nat.reduceLeDiff, Nat.reduceMul, Int.reduceNeg, Int.reduceToNat, Int.reduceEq, Int.reduceLT, Int.reduceLE, reduceCtorEq]
    grind [isWord]
def foldS (s : Str) : Str := s.map foldB
@[go_sem] theorem fold_R (s : Str) (hs : s.length ≤ 1099511627776) : R S0 171 [.str s] = some ⟨[none], .str (foldS s)⟩ := by
  have h1 : s.length ≤ 140737488355328 := by omega
  refine go171 rfl ?_; simp only [go_sem, ↓reduceIte, Nat.reduceAdd, Nat.reduceSub, Nat.reduceEqDiff, Nat.reduceLT, Nat.reduceLeDiff, Nat.reduceMul, Int.reduceNeg, Int.reduceToNat, Int.reduceEq, Int.reduceLT, Int.reduceLE, reduceCtorEq, Tryz.f171, h1]
  refine ends_for s.length (by omega) (fun i l => mkSt [(3, .own 0), (8, .own 0), (9, .int .i64 s.length), (10, .int .i64 i)] [.slo 1 (l.map bytePV)]) (fun i l => l = (s.take i).map foldB ++ s.drop i) 0 s (by omega) (by simp) ?_ ?_
  · intro i l hi hI hw ih
    obtain ⟨b, hb, _, hd⟩ := drop_get hi 0
    have hl : l[i]? = some b := by rw [hI, List.getElem?_append_right (by simp; omega)]; simp [Nat.min_eq_left (Nat.le_of_lt hi), hb]
    have hf : inB b.toNat 65 90 = true → IntKind.u8.wrap (IntKind.u8.wrap ((b.toNat : Int) + 97) - 65) = ((foldB b).toNat : Nat) := by
      intro h
      rw [foldB_nat, if_pos h, IntKind.wrap_u8, IntKind.wrap_u8]
      simp [inB] at h
      omega
    have hn : inB b.toNat 65 90 = false → foldB b = b := fun h => by simp [foldB, h]
    have hset : l.set i (foldB b) = (s.take (i + 1)).map foldB ++ s.drop (i + 1) := by
      rw [hI, List.set_append_right _ _ (by simp; omega), hd, List.take_add_one, hb]
      simp [Nat.min_eq_left (Nat.le_of_lt hi)]
    have hself : inB b.toNat 65 90 = false → l.set i b = l := fun h => by obtain ⟨hlt, rfl⟩ := List.getElem?_eq_some_iff.1 hl; exact List.set_getElem_self hlt
    have hll : i < l.length := (List.getElem?_eq_some_iff.1 hl).1
    cases hc : inB b.toNat 65 90 with
    | true =>
      simp only [go_sem, ↓reduceIte, Nat.reduceAdd, Nat.reduceSub, Nat.reduceEqDiff, Nat.reduceLT, Nat.reduceLeDiff, Nat.reduceMul, Int.reduceNeg, Int.reduceToNat, Int.reduceEq, Int.reduceLT, Int.reduceLE, reduceCtorEq, hi, hw, hl, hll, hc, hf hc]
      exact ih _ hset
    | false =>
      simp only [go_sem, ↓reduceIte, Nat.reduceAdd, Nat.reduceSub, Nat.reduceEqDiff, Nat.reduceLT, Nat.reduceLeDiff, Nat.reduceMul, Int.reduceNeg, Int.reduceToNat, Int.reduceEq, Int.reduceLT, Int.reduceLE, reduceCtorEq, hi, hw, hl, hll, hc]
      refine ih _ ?_
      rw [← hset, hn hc]
      exact (hself hc).symm
  · intro l hI
    simp only [go_sem, ↓reduceIte, Nat.reduceAdd, Nat.reduceSub, Nat.reduceEqDiff, Nat.reduceLT, Nat.reduceLeDiff, Nat.reduceMul, Int.reduceNeg, Int.reduceToNat, Int.reduceEq, Int.reduceLT, Int.reduceLE, reduceCtorEq]
    rw [hI]
    simp [foldS]
@[go_sem] theorem specFold_R (s : Str) (hs : s.length ≤ 1099511627776) : R S0 219 [.str s] = some ⟨[none], .str (foldS s)⟩ := by
  refine go219 rfl ?_; simp only [go_sem, ↓reduceIte, Nat.reduceAdd, Nat.reduceSub, Nat.reduceEqDiff, Nat.reduceLT, Nat.reduceLeDiff, Nat.reduceMul, Int.reduceNeg, Int.reduceToNat, Int.reduceEq, Int.reduceLT, Int.reduceLE, reduceCtorEq, Tryz.f219]
  refine ends_for s.length (by omega) (fun i l => mkSt [(0, .str s), (3, .own 0), (4, .int .i64 i)] [.slo 1 (l.map bytePV)]) (fun i l => l = (s.take i).map foldB) 0 [] (by omega) (by simp) ?_ ?_
  · intro i l hi hI hw ih
    obtain ⟨b, hb, hg, hd⟩ := drop_get hi 0
    have hl : l.length = i := by rw [hI]; simp; omega
    have h1 : i + 1 ≤ 140737488355328 := by omega
    simp only [go_sem, ↓reduceIte, Nat.reduceAdd, Nat.reduceSub, Nat.reduceEqDiff, Nat.reduceLT, Nat.reduceLeDiff, Nat.reduceMul, Int.reduceNeg, Int.reduceToNat, Int.reduceEq, Int.reduceLT, Int.reduceLE, reduceCtorEq, hi, hw, hg, hl, h1]
    refine ih _ ?_
    rw [hI, List.take_add_one, hb]
    simp
  · intro l hI
    simp only [go_sem, ↓reduceIte, Nat.reduceAdd, Nat.reduceSub, Nat.reduceEqDiff, Nat.reduceLT, Nat.reduceLeDiff, Nat.reduceMul, Int.reduceNeg, Int.reduceToNat, Int.reduceEq, Int.reduceLT, Int.reduceLE, reduceCtorEq]
    rw [hI]
    simp [foldS]
@[go_sem] theorem index_R (l : List Str) (s : Str) (hl : l.length ≤ 1099511627776) : R S0 224 [.sl (l.map .str), .str s] = some ⟨[none, none], .int .i64 (if l.contains s = true then (l.idxOf s : Int) else -1)⟩ := by
  refine go224 rfl ?_; simp only [go_sem, ↓reduceIte, Nat.reduceAdd, Nat.reduceSub, Nat.reduceEqDiff, Nat.reduceLT, Nat.reduceLeDiff, Nat.reduceMul, Int.reduceNeg, Int.reduceToNat, Int.reduceEq, Int.reduceLT, Int.reduceLE, reduceCtorEq, Tryz.f224]
  refine ends_for l.length (by omega) (fun i _ => mkSt [(0, .sl (l.map .str)), (1, .str s), (7, .int .i64 l.length), (8, .int .i64 i)] []) (fun i _ => s ∉ l.take i) 0 () (by omega) (by simp) ?_ ?_
  · intro i _ hi hI hw ih
    obtain ⟨x, hx, hg, hd⟩ := drop_get hi default
    have hlx : l = l.take i ++ x :: l.drop (i + 1) := by rw [← hd, List.take_append_drop]
    simp only [go_sem, ↓reduceIte, Nat.reduceAdd, Nat.reduceSub, Nat.reduceEqDiff, Nat.reduceLT, Nat.reduceLeDiff, Nat.reduceMul, Int.reduceNeg, Int.reduceToNat, Int.reduceEq, Int.reduceLT, Int.reduceLE, reduceCtorEq, hi, hw, hg]
    refine ⟨fun h => ?_, fun h => ih () ?_⟩
    · subst h
      have h1 : l.contains s = true := by rw [hlx]; simp
      have h2 : l.idxOf s = i := by
        rw [hlx, List.idxOf_append, if_neg hI]
        simp [Nat.min_eq_left (Nat.le_of_lt hi)]
      rw [if_pos h1, h2]
    · rw [List.take_add_one, hx]
      simp [hI, h]
  · intro _ hI
    simp only [go_sem, ↓reduceIte, Nat.reduceAdd, Nat.reduceSub, Nat.reduceEqDiff, Nat.reduceLT, Nat.reduceLeDiff, Nat.reduceMul, Int.reduceNeg, Int.reduceToNat, Int.reduceEq, Int.reduceLT, Int.reduceLE, reduceCtorEq]
    simp at hI
    simp [hI]
@[go_sem] theorem contains_R (l : List Str) (s : Str) (hl : l.length ≤ 1099511627776) : R S0 179 [.sl (l.map .str), .str s] = some ⟨[none, none], .bool (l.contains s)⟩ := by
  refine go179 rfl ?_; simp only [go_sem, ↓reduceIte, Nat.reduceAdd, Nat.reduceSub, Nat.reduceEqDiff, Nat.reduceLT, Nat.reduceLeDiff, Nat.reduceMul, Int.reduceNeg, Int.reduceToNat, Int.reduceEq, Int.reduceLT, Int.reduceLE, reduceCtorEq, Tryz.f179, hl]
  cases h : l.contains s <;> simp
def stops : List Str := [[97], [97, 110], [97, 110, 100], [111, 102], [116, 104, 101], [116, 111]]
def cut1 (w : Str) : Str := if w.length > 3 ∧ w.getD (w.length - 1) 0 = 115 ∧ w.getD (w.length - 2) 0 ≠ 115 then w.take (w.length - 1) else w
def stem (s : Str) : Str := if stops.contains (cut1 ((foldS s).take 12)) then [] else cut1 ((foldS s).take 12)
@[go_sem] theorem l1Stop_R (s : Str) : R S0 251 [.str s] = some ⟨[none], .bool (stops.contains s)⟩ := by
  refine go251 rfl ?_; simp only [go_sem, ↓reduceIte, Nat.reduceAdd, Nat.reduceSub, Nat.reduceEqDiff, Nat.reduceLT, Nat.reduceLeDiff, Nat.reduceMul, Int.reduceNeg, Int.reduceToNat, Int.reduceEq, Int.reduceLT, Int.reduceLE, reduceCtorEq, Tryz.f251]
  refine ends_for stops.length (by decide) (fun i _ => mkSt [(0, .str s), (3, .own 0), (4, .int .i64 i)] [.slo 1 (stops.map .str)]) (fun i _ => s ∉ stops.take i) 0 () (by omega) (by simp) ?_ ?_
  · intro i _ hi hI hw ih
    obtain ⟨x, hx, _, hd⟩ := drop_get hi []
    have hlx : stops = stops.take i ++ x :: stops.drop (i + 1) := by rw [← hd, List.take_append_drop]
    simp only [go_sem, ↓reduceIte, Nat.reduceAdd, Nat.reduceSub, Nat.reduceEqDiff, Nat.reduceLT, Nat.reduceLeDiff, Nat.reduceMul, Int.reduceNeg, Int.reduceToNat, Int.reduceEq, Int.reduceLT, Int.reduceLE, reduceCtorEq, hi, hw, hx]
    refine ⟨fun h => ?_, fun h => ih () ?_⟩
    · subst h
      rw [hlx]; simp
    · rw [List.take_add_one, hx]
      simp [hI, Ne.symm h]
  · intro _ hI
    simp only [go_sem, ↓reduceIte, Nat.reduceAdd, Nat.reduceSub, Nat.reduceEqDiff, Nat.reduceLT, Nat.reduceLeDiff, Nat.reduceMul, Int.reduceNeg, Int.reduceToNat, Int.reduceEq, Int.reduceLT, Int.reduceLE, reduceCtorEq]
    simp at hI
    simp [hI]
theorem byte_eq (b c : UInt8) {m : Int} (h : m = c.toNat) : ((b.toNat : Int) = m) = (b = c) := by
  subst h
  refine propext ⟨fun h => UInt8.toNat_inj.1 (by omega), fun h => by rw [h]⟩
theorem cut_take {α : Type} (l : List α) (n : Nat) : cut l 0 (n : Int) = l.take n := by simp [cut]
theorem cut_drop {α : Type} (l : List α) (n : Nat) : cut l (n : Int) l.length = l.drop n := by
  simp only [cut, Int.toNat_natCast]
  exact List.take_of_length_le (by simp)
@[go_sem] theorem stem_R (s : Str) (hs : s.length ≤ 1099511627776) : R S0 169 [.str s] = some ⟨[none], .str (stem s)⟩ := by
  obtain ⟨w, hw⟩ : ∃ w, (foldS s).take 12 = w := ⟨_, rfl⟩
  have hc : cut (foldS s) 0 (if 12 < ((foldS s).length : Int) then 12 else ((foldS s).length : Int)) = w := by
    rw [← hw]
    split
    · exact cut_take _ 12
    · rw [cut_take, List.take_of_length_le (Nat.le_refl _), List.take_of_length_le (by omega)]
  have hlen : w.length ≤ 12 := by rw [← hw]; simp; omega
  have e1 : 3 < w.length → IntKind.i64.wrap ((w.length : Int) - 1) = ((w.length - 1 : Nat) : Int) := fun h => by rw [wrap_in (by omega) (by omega)]; omega
  have e2 : 3 < w.length → IntKind.i64.wrap ((w.length : Int) - 2) = ((w.length - 2 : Nat) : Int) := fun h => by rw [wrap_in (by omega) (by omega)]; omega
  have b1 := fun b => byte_eq b 115 (m := 115) rfl
  have hst : ([[97], [97, 110], [97, 110, 100], [111, 102], [116, 104, 101], [116, 111]] : List Str) = stops := rfl
  have hstl : stops.length ≤ 1099511627776 := by decide
  unfold stem
  rw [hw]
  by_cases h3 : 3 < w.length
  · have h3' : (3 : Int) < w.length := by omega
    have k1 : w.length - 1 < w.length := by omega
    have k2 : w.length - 2 < w.length := by omega
    refine go169 rfl ?_; simp only [go_sem, ↓reduceIte, Nat.reduceAdd, Nat.reduceSub, Nat.reduceEqDiff, Nat.reduceLT, Nat.reduceLeDiff, Nat.reduceMul, Int.reduceNeg, Int.reduceToNat, Int.reduceEq, Int.reduceLT, Int.reduceLE, reduceCtorEq, Tryz.f169, hs, hc, e1 h3, e2 h3, h3', cut_take, k1, k2, b1, hst, hstl]
    refine ⟨by split <;> omega, ?_⟩
    grind [cut1]
  · have h3' : ¬ (3 : Int) < w.length := by omega
    refine go169 rfl ?_; simp only [go_sem, ↓reduceIte, Nat.reduceAdd, Nat.reduceSub, Nat.reduceEqDiff, Nat.reduceLT, Nat.reduceLeDiff, Nat.reduceMul, Int.reduceNeg, Int.reduceToNat, Int.reduceEq, Int.reduceLT, Int.reduceLE, reduceCtorEq, Tryz.f169, hs, hc, h3', hst, hstl]
    refine ⟨by split <;> omega, ?_⟩
    grind [cut1]
@[go_sem] theorem specStem_R (s : Str) (hs : s.length ≤ 1099511627776) : R S0 218 [.str s] = some ⟨[none], .str (stem s)⟩ := by
  obtain ⟨w, hw⟩ : ∃ w, (foldS s).take 12 = w := ⟨_, rfl⟩
  have hlen : w.length ≤ 12 := by rw [← hw]; simp; omega
  have e1 : 3 < w.length → IntKind.i64.wrap ((w.length : Int) - 1) = ((w.length - 1 : Nat) : Int) := fun h => by rw [wrap_in (by omega) (by omega)]; omega
  have e2 : 3 < w.length → IntKind.i64.wrap ((w.length : Int) - 2) = ((w.length - 2 : Nat) : Int) := fun h => by rw [wrap_in (by omega) (by omega)]; omega
  have b1 := fun b => byte_eq b 115 (m := 115) rfl
  unfold stem
  rw [hw]
  by_cases h12 : 12 < (foldS s).length
  · have h12' : (12 : Int) < (foldS s).length := by omega
    have hc : cut (foldS s) 0 12 = w := by rw [← hw]; exact cut_take _ 12
    by_cases h3 : 3 < w.length
    · have h3' : (3 : Int) < w.length := by omega
      have k1 : w.length - 1 < w.length := by omega
      have k2 : w.length - 2 < w.length := by omega
      refine go218 rfl ?_; simp only [go_sem, ↓reduceIte, Nat.reduceAdd, Nat.reduceSub, Nat.reduceEqDiff, Nat.reduceLT, Nat.reduceLeDiff, Nat.reduceMul, Int.reduceNeg, Int.reduceToNat, Int.reduceEq, Int.reduceLT, Int.reduceLE, reduceCtorEq, Tryz.f218, hs, hc, h12', e1 h3, e2 h3, h3', cut_take, k1, k2, b1]
      grind [cut1]
    · have h3' : ¬ (3 : Int) < w.length := by omega
      refine go218 rfl ?_; simp only [go_sem, ↓reduceIte, Nat.reduceAdd, Nat.reduceSub, Nat.reduceEqDiff, Nat.reduceLT, Nat.reduceLeDiff, Nat.reduceMul, Int.reduceNeg, Int.reduceToNat, Int.reduceEq, Int.reduceLT, Int.reduceLE, reduceCtorEq, Tryz.f218, hs, hc, h12', h3']
      grind [cut1]
  · have h12' : ¬ (12 : Int) < (foldS s).length := by omega
    have hc : foldS s = w := by rw [← hw, List.take_of_length_le (by omega)]
    by_cases h3 : 3 < w.length
    · have h3' : (3 : Int) < w.length := by omega
      have k1 : w.length - 1 < w.length := by omega
      have k2 : w.length - 2 < w.length := by omega
      rw [hc] at h12'
      refine go218 rfl ?_; simp only [go_sem, ↓reduceIte, Nat.reduceAdd, Nat.reduceSub, Nat.reduceEqDiff, Nat.reduceLT, Nat.reduceLeDiff, Nat.reduceMul, Int.reduceNeg, Int.reduceToNat, Int.reduceEq, Int.reduceLT, Int.reduceLE, reduceCtorEq, Tryz.f218, hs, hc, h12', e1 h3, e2 h3, h3', cut_take, k1, k2, b1]
      grind [cut1]
    · have h3' : ¬ (3 : Int) < w.length := by omega
      rw [hc] at h12'
      refine go218 rfl ?_; simp only [go_sem, ↓reduceIte, Nat.reduceAdd, Nat.reduceSub, Nat.reduceEqDiff, Nat.reduceLT, Nat.reduceLeDiff, Nat.reduceMul, Int.reduceNeg, Int.reduceToNat, Int.reduceEq, Int.reduceLT, Int.reduceLE, reduceCtorEq, Tryz.f218, hs, hc, h12', h3']
      grind [cut1]
def splitB (c : UInt8) : Str → List Str
  | [] => [[]]
  | b :: s => if b = c then [] :: splitB c s else match splitB c s with
    | [] => [[b]]
    | p :: ps => (b :: p) :: ps
theorem splitB_ne (c : UInt8) (s : Str) : splitB c s ≠ [] := by
  cases s with
  | nil => simp [splitB]
  | cons b s =>
    simp only [splitB]
    split
    · simp
    · split <;> simp
theorem splitB_length (c : UInt8) (s : Str) : (splitB c s).length = s.count c + 1 := by
  induction s with
  | nil => rfl
  | cons b s ih =>
    simp only [splitB]
    split
    · rename_i h; subst h; simp [ih]
    · rename_i h
      have : (b == c) = false := by simpa using h
      split
      · rename_i h2; exact absurd h2 (splitB_ne c s)
      · rename_i p ps h2
        rw [h2] at ih
        simp [List.count_cons, this] at ih ⊢
        exact ih
theorem split_none {c : UInt8} {s : Str} (h : s.count c = 0) : splitB c s = [s] := by
  induction s with
  | nil => rfl
  | cons b s ih =>
    have hb : ¬ b = c := by rintro rfl; simp at h
    have h2 : s.count c = 0 := by
      have : (b == c) = false := by simpa using hb
      simpa [List.count_cons, this] using h
    simp only [splitB, hb, if_false, ih h2]
theorem split_first {c : UInt8} {s : Str} (h : 0 < s.count c) : ∃ m : Nat, Lib.indexByte s c = m ∧ m < s.length ∧ splitB c s = s.take m :: splitB c (s.drop (m + 1)) ∧ s.count c = (s.drop (m + 1)).count c + 1 := by
  induction s with
  | nil => simp at h
  | cons b s ih =>
    by_cases hb : b = c
    · subst hb
      refine ⟨0, by simp [Lib.indexByte], by simp, by simp [splitB], by simp⟩
    · have hbc : (b == c) = false := by simpa using hb
      have h2 : 0 < s.count c := by simpa [List.count_cons, hbc] using h
      obtain ⟨m, h3, h4, h5, h6⟩ := ih h2
      refine ⟨m + 1, ?_, by simpa using h4, ?_, by simpa [List.count_cons, hbc] using h6⟩
      · have hne : ¬ ((m : Int) == -1) = true := by simp
        simp [Lib.indexByte, hbc, h3, hne]
      · simp only [splitB, hb, if_false, h5]
        simp
@[go_sem] theorem count_R (s : Str) (c : UInt8) : R S0 277 [.str s, .str [c]] = some ⟨[none, none], .int .i64 (Lib.countByte s c)⟩ := R_lib (by kernel_rfl)
@[go_sem] theorem indexLite_R (s : Str) (c : UInt8) : R S0 279 [.str s, .str [c]] = some ⟨[none, none], .int .i64 (Lib.indexByte s c)⟩ := R_lib (by kernel_rfl)
@[go_sem] theorem strIndex_R (s : Str) (c : UInt8) : R S0 278 [.str s, .str [c]] = some ⟨[none, none], .int .i64 (Lib.indexByte s c)⟩ := by
  refine go278 rfl ?_; simp only [go_sem, ↓reduceIte, Nat.reduceAdd, Nat.reduceSub, Nat.reduceEqDiff, Nat.reduceLT, Nat.reduceLeDiff, Nat.reduceMul, Int.reduceNeg, Int.reduceToNat, Int.reduceEq, Int.reduceLT, Int.reduceLE, reduceCtorEq, Tryz.f278]
@[go_sem] theorem genSplit_R (s : Str) (c : UInt8) (hs : s.length ≤ 1099511627776) : R S0 244 [.str s, .str [c], .int .i64 0, .int .i64 (-1)] = some ⟨[none, none, none, none], .sl ((splitB c s).map .str)⟩ := by
  have hcl : s.count c ≤ s.length := List.count_le_length
  have e1 : IntKind.i64.wrap ((Lib.countByte s c : Int) + 1) = ((s.count c + 1 : Nat) : Int) := by rw [Lib.countByte, wrap_in (by omega) (by omega)]; omega
  have e2 : IntKind.i64.wrap ((s.length : Int) + 1) = ((s.length + 1 : Nat) : Int) := by rw [wrap_in (by omega) (by omega)]; omega
  have e3 : (if s.length + 1 < s.count c + 1 then ((s.length + 1 : Nat) : Int) else ((s.count c + 1 : Nat) : Int)) = ((s.count c + 1 : Nat) : Int) := if_neg (by omega)
  have e4 : IntKind.i64.wrap (((s.count c + 1 : Nat) : Int) - 1) = ((s.count c : Nat) : Int) := by rw [wrap_in (by omega) (by omega)]; omega
  have e5 : (s.count c + 1) * 16 ≤ 140737488355328 := by omega
  refine go244 rfl ?_; simp only [go_sem, ↓reduceIte, Nat.reduceAdd, Nat.reduceSub, Nat.reduceEqDiff, Nat.reduceLT, Nat.reduceLeDiff, Nat.reduceMul, Int.reduceNeg, Int.reduceToNat, Int.reduceEq, Int.reduceLT, Int.reduceLE, reduceCtorEq, Tryz.f244, hs, e1, e2, e3, e4, e5]
  refine ends_for (s.count c) (by omega) (fun i (x : Str × List Str) => mkSt [(0, .str x.1), (1, .str [c]), (2, .int .i64 0), (3, .int .i64 (s.count c)), (9, .own 0), (10, .int .i64 i)] [.slo 1 (x.2.map .str)])
    (fun i x => x.2.length = s.count c + 1 ∧ x.2.take i ++ splitB c x.1 = splitB c s ∧ x.1.count c = s.count c - i ∧ x.1.length ≤ s.length) 0 (s, List.replicate (s.count c + 1) []) (by omega) ⟨by simp, by simp, by simp, Nat.le_refl _⟩ ?_ ?_
  · rintro i ⟨r, a⟩ hi ⟨h1, h2, h3, h4⟩ hw ih
    simp only at h1 h2 h3 h4
    obtain ⟨m, k1, k2, k3, k4⟩ := split_first (c := c) (s := r) (by omega)
    have k5 : ¬ (m : Int) < 0 := by omega
    have k6 : IntKind.i64.wrap (m : Int) = m := wrap_in (by omega) (by omega)
    have k7 : IntKind.i64.wrap ((m : Int) + 1) = ((m + 1 : Nat) : Int) := by rw [wrap_in (by omega) (by omega)]; omega
    have k8 : a[i]? = some (a[i]'(by omega)) := List.getElem?_eq_getElem _
    have k9 : m ≤ r.length := by omega
    have k10 : m + 1 ≤ r.length := by omega
    have k11 : i < a.length := by omega
    simp only [go_sem, ↓reduceIte, Nat.reduceAdd, Nat.reduceSub, Nat.reduceEqDiff, Nat.reduceLT, Nat.reduceLeDiff, Nat.reduceMul, Int.reduceNeg, Int.reduceToNat, Int.reduceEq, Int.reduceLT, Int.reduceLE, reduceCtorEq, hi, hw, k1, k5, k6, k7, k8, k9, k10, k11, cut_take, cut_drop]
    refine ih (r.drop (m + 1), a.set i (r.take m)) ⟨by simpa using h1, ?_, by simp only; omega, by simp; omega⟩
    rw [← h2, k3, List.take_set, List.take_add_one, k8, List.set_append_right _ _ (by simp; omega)]
    simp [Nat.min_eq_left (show i ≤ a.length by omega)]
  · rintro ⟨r, a⟩ ⟨h1, h2, h3, h4⟩
    simp only at h1 h2 h3 h4
    have k8 : a[s.count c]? = some (a[s.count c]'(by omega)) := List.getElem?_eq_getElem _
    have k7 : IntKind.i64.wrap ((s.count c : Int) + 1) = ((s.count c + 1 : Nat) : Int) := by rw [wrap_in (by omega) (by omega)]; omega
    have k11 : s.count c < a.length := by omega
    have k12 : s.count c + 1 ≤ a.length := by omega
    simp only [go_sem, ↓reduceIte, Nat.reduceAdd, Nat.reduceSub, Nat.reduceEqDiff, Nat.reduceLT, Nat.reduceLeDiff, Nat.reduceMul, Int.reduceNeg, Int.reduceToNat, Int.reduceEq, Int.reduceLT, Int.reduceLE, reduceCtorEq, k8, k7, k11, k12]
    rw [List.take_set, List.take_add_one, k8, List.set_append_right _ _ (by simp; omega), ← h2, split_none (s := r) (by omega)]
    simp [Nat.min_eq_left (show s.count c ≤ a.length by omega)]
@[go_sem] theorem split_R (s : Str) (c : UInt8) (hs : s.length ≤ 1099511627776) : R S0 202 [.str s, .str [c]] = some ⟨[none, none], .sl ((splitB c s).map .str)⟩ := by
  refine go202 rfl ?_; simp only [go_sem, ↓reduceIte, Nat.reduceAdd, Nat.reduceSub, Nat.reduceEqDiff, Nat.reduceLT, Nat.reduceLeDiff, Nat.reduceMul, Int.reduceNeg, Int.reduceToNat, Int.reduceEq, Int.reduceLT, Int.reduceLE, reduceCtorEq, Tryz.f202, hs]
end Go.Proofs.YtmanllfmgghadaaGreatDoor.PVE
