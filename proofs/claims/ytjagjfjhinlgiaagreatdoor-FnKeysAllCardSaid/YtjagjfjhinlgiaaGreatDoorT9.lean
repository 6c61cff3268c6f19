/- Terms of a text and of a question. -/
import Derived.Test.YtjagjfjhinlgiaaGreatDoorT8
set_option linter.unusedVariables false
set_option linter.unusedSimpArgs false
set_option maxRecDepth 100000
namespace Go.Proofs.YtjagjfjhinlgiaaGreatDoor.PVE
open PV Query
@[go_sem] theorem vals_slice {E : Env} {st : St} {t : Nat} {x : Operand} {lo hi mx : Option Operand} : valsOf E st (.slice t x lo hi mx) = ev E st x :: (lo.toList ++ hi.toList ++ mx.toList).map (ev E st) := by
  cases lo <;> cases hi <;> cases mx <;> simp [valsOf, Go.Op.operands]
attribute [go_sem] Option.toList_some Option.toList_none
@[go_sem] theorem sort_R (l : List Str) (hl : l.length ≤ 1099511627776) : R S0 190 [.slo 1 (l.map .str)] = some ⟨[some (.slo 1 ((l.mergeSort leStr).map .str))], .tup []⟩ := by
  refine R_lib (Eq.trans (b := libSort [.slo 1 (l.map .str)]) (by kernel_rfl) ?_)
  rw [libSort, strsOf_map, strsAll_map, if_pos ⟨rfl, by simpa using hl⟩]
@[go_sem] theorem compact_R (l : List Str) (hl : l.length ≤ 1099511627776) : R S0 191 [.slo 1 (l.map .str)] = some ⟨[none], .slo 1 ((Lib.compact l).map .str)⟩ := by
  refine R_lib (Eq.trans (b := libCompact [.slo 1 (l.map .str)]) (by kernel_rfl) ?_)
  rw [libCompact, strsOf_map, strsAll_map, if_pos ⟨rfl, by simpa using hl⟩]
def uniq (l : List Str) : List Str := Lib.compact (l.mergeSort leStr)
@[go_sem] theorem unique_R (l : List Str) (hl : l.length ≤ 1099511627776) : R S0 153 [.sl (l.map .str)] = some ⟨[none], .slo 1 ((uniq l).map .str)⟩ := by
  have h1 : l.length * 16 ≤ 140737488355328 := by omega
  have h2 : (l.mergeSort leStr).length = l.length := List.length_mergeSort _
  have h3 : (l.mergeSort leStr).length ≤ 1099511627776 := by omega
  have h4 : (Lib.compact (l.mergeSort leStr)).length * 16 ≤ 140737488355328 := by have := compact_len (l.mergeSort leStr); omega
  refine go153 rfl ?_; simp only [go_sem, ↓reduceIte, Nat.reduceAdd, Nat.reduceSub, Nat.reduceEqDiff, Nat.reduceLT, Nat.reduceLeDiff, Nat.reduceMul, Int.reduceNeg, Int.reduceToNat, Int.reduceEq, Int.reduceLT, Int.reduceLE, reduceCtorEq, Tryz.f153, h1, hl, h3, h4]
  rfl
@[go_sem] theorem implWords_R (s : Str) (hs : s.length ≤ 1099511627776) : R S0 134 [.str s] = some ⟨[none], .slo 3 ((words s).map Wrd.pv)⟩ := by
  refine go134 rfl ?_; simp only [go_sem, ↓reduceIte, Nat.reduceAdd, Nat.reduceSub, Nat.reduceEqDiff, Nat.reduceLT, Nat.reduceLeDiff, Nat.reduceMul, Int.reduceNeg, Int.reduceToNat, Int.reduceEq, Int.reduceLT, Int.reduceLE, reduceCtorEq, Tryz.f134, hs]
  refine ends_wh (fun x : Nat × List Wrd => s.length - x.1) (fun x => mkSt [(0, .str s), (3, .own 0), (4, .int .i64 x.1)] [.slo 3 (x.2.map Wrd.pv)]) (fun x => x.1 ≤ s.length + 1 ∧ x.2.length ≤ x.1 ∧ x.2 ++ wordsAt x.1 (s.drop x.1) = words s) (0, []) ⟨by omega, Nat.le_refl _, rfl⟩ ?_
  rintro ⟨i, out⟩ ⟨hi, ho, hI⟩ ih
  simp only at hi ho hI
  by_cases hlt : i < s.length
  · simp only [go_sem, ↓reduceIte, Nat.reduceAdd, Nat.reduceSub, Nat.reduceEqDiff, Nat.reduceLT, Nat.reduceLeDiff, Nat.reduceMul, Int.reduceNeg, Int.reduceToNat, Int.reduceEq, Int.reduceLT, Int.reduceLE, reduceCtorEq, hlt]
    refine ends_wh (fun k : Nat => s.length - k) (fun k => mkSt [(0, .str s), (3, .own 0), (4, .int .i64 k), (5, .int .i64 i)] [.slo 3 (out.map Wrd.pv)]) (fun k => i ≤ k ∧ k ≤ s.length ∧ run (s.drop i) = (k - i) + run (s.drop k)) i ⟨Nat.le_refl _, by omega, by simp⟩ ?_
    rintro k ⟨hk, hkl, hr⟩ ihk
    have hsp := drop_getD hlt (0 : UInt8)
    have hk1 : IntKind.i64.wrap ((k : Int) + 1) = ((k + 1 : Nat) : Int) := wrap_in (by omega) (by omega)
    have hcut : cut s (i : Int) (k : Int) = (s.drop i).take (k - i) := by simp only [cut, Int.toNat_natCast, List.drop_take]
    have hnx : run (s.drop k) = 0 → wordsAt k (s.drop k) = wordsAt (k + 1) (s.drop (k + 1)) := by
      intro h0
      by_cases hkl2 : k < s.length
      · have hdk := drop_getD hkl2 (0 : UInt8)
        have hb : wordB (s.getD k 0) = false := by
          cases hb : wordB (s.getD k 0) with
          | false => rfl
          | true => rw [hdk, run, if_pos hb] at h0; omega
        rw [hdk, words_skip _ _ hb]
      · rw [List.drop_of_length_le (by omega), List.drop_of_length_le (by omega), wordsAt, wordsAt]
    have f1 := fun (h : k = i) (h0 : run (s.drop k) = 0) => ih (k + 1, out) (by simp only; omega) ⟨by simp only; omega, by simp only; omega, by
      have := hnx h0
      subst h
      rw [this] at hI
      exact hI⟩
    have f2 := fun (h : ¬ k = i) (h0 : run (s.drop k) = 0) => ih (k + 1, out ++ [⟨cut s (i : Int) (k : Int), i, k⟩]) (by simp only; omega) ⟨by simp only; omega, by simp; omega, by
      have hb : wordB (s.getD i 0) = true := by
        cases hb : wordB (s.getD i 0) with
        | true => rfl
        | false => rw [hsp, run, if_neg (by rw [hb]; simp), h0] at hr; omega
      have e : i + (k - i) = k := by omega
      have hn2 := hnx h0
      rw [h0, Nat.add_zero] at hr
      rw [hsp, wordsAt, dif_pos hb, ← hsp, hr, e, List.drop_drop, e, hn2] at hI
      simp only [hcut, List.append_assoc]
      exact hI⟩
    simp only at f1 f2
    by_cases hkl2 : k < s.length
    · have hdk := drop_getD hkl2 (0 : UInt8)
      simp only [go_sem, ↓reduceIte, Nat.reduceAdd, Nat.reduceSub, Nat.reduceEqDiff, Nat.reduceLT, Nat.reduceLeDiff, Nat.reduceMul, Int.reduceNeg, Int.reduceToNat, Int.reduceEq, Int.reduceLT, Int.reduceLE, reduceCtorEq, hkl2, hk1]
      refine ⟨fun h => ihk (k + 1) (by omega) ⟨by omega, by omega, ?_⟩, fun h => ?_⟩
      · rw [hr, hdk, run, if_pos (show wordB (s.getD k 0) = true from h)]; omega
      · have h0 : run (s.drop k) = 0 := by rw [hdk, run, if_neg (by rw [show wordB (s.getD k 0) = false from h]; simp)]
        exact ⟨fun h => ⟨⟨hk, hkl⟩, by omega, f2 (by omega) h0⟩, fun h => f1 (by omega) h0⟩
    · have h0 : run (s.drop k) = 0 := by rw [List.drop_of_length_le (by omega)]; rfl
      simp only [go_sem, ↓reduceIte, Nat.reduceAdd, Nat.reduceSub, Nat.reduceEqDiff, Nat.reduceLT, Nat.reduceLeDiff, Nat.reduceMul, Int.reduceNeg, Int.reduceToNat, Int.reduceEq, Int.reduceLT, Int.reduceLE, reduceCtorEq, hkl2, hk1]
      exact ⟨fun h => ⟨⟨hk, hkl⟩, by omega, f2 (by omega) h0⟩, fun h => f1 (by omega) h0⟩
  · simp only [go_sem, ↓reduceIte, Nat.reduceAdd, Nat.reduceSub, Nat.reduceEqDiff, Nat.reduceLT, Nat.reduceLeDiff, Nat.reduceMul, Int.reduceNeg, Int.reduceToNat, Int.reduceEq, Int.reduceLT, Int.reduceLE, reduceCtorEq, hlt]
    rw [List.drop_of_length_le (by omega), wordsAt, List.append_nil] at hI
    rw [hI]
theorem words_text (s : Str) (i : Nat) : ∀ w ∈ wordsAt i s, w.text.length ≤ s.length := by
  induction hn : s.length using Nat.strongRecOn generalizing s i with
  | _ n ih =>
    cases s with
    | nil => intro w hw; rw [wordsAt] at hw; cases hw
    | cons b s =>
      intro w hw
      rw [wordsAt] at hw
      split at hw
      · rename_i hb
        have hr : run (b :: s) = run s + 1 := by simp [run, hb]
        rcases List.mem_cons.1 hw with rfl | hw
        · simp only [List.length_take]; omega
        · have := ih _ (by rw [List.length_drop, hr]; simp at hn ⊢; omega) _ _ rfl w hw
          rw [List.length_drop] at this
          omega
      · have := ih s.length (by simp at hn; omega) s _ rfl w hw
        simp at hn; omega
def terms (s : Str) : List Str := (words s).map fun w => stem w.text
@[go_sem] theorem implTerms_R (s : Str) (hs : s.length ≤ 1099511627776) : R S0 94 [.str s] = some ⟨[none], .slo 1 ((terms s).map .str)⟩ := by
  have hwl := (words_len s 0).1
  have hwt : ∀ w ∈ words s, w.text.length ≤ 1099511627776 := fun w hw => Nat.le_trans (words_text s 0 w hw) hs
  refine go94 rfl ?_; simp only [go_sem, ↓reduceIte, Nat.reduceAdd, Nat.reduceSub, Nat.reduceEqDiff, Nat.reduceLT, Nat.reduceLeDiff, Nat.reduceMul, Int.reduceNeg, Int.reduceToNat, Int.reduceEq, Int.reduceLT, Int.reduceLE, reduceCtorEq, Tryz.f94, hs]
  refine ends_for (words s).length (by unfold words; omega) (fun i (x : List Str) => mkSt [(3, .own 0), (8, .own 1), (9, .int .i64 (words s).length), (10, .int .i64 i)] [.slo 1 (x.map .str), .slo 3 ((words s).map Wrd.pv)]) (fun i x => x = ((words s).take i).map fun w => stem w.text) 0 [] (by omega) rfl ?_ ?_
  · rintro i x hi hI hw ih
    obtain ⟨y, hy, hg, hd⟩ := drop_get hi default
    have hyt := hwt y (List.mem_of_getElem? hy)
    have hxl : x.length = i := by rw [hI]; simp; omega
    have hwb : i + 1 ≤ 1099511627776 := by unfold words at hi; omega
    have h1 : (i + 1) * 16 ≤ 140737488355328 := by omega
    simp only [go_sem, ↓reduceIte, Nat.reduceAdd, Nat.reduceSub, Nat.reduceEqDiff, Nat.reduceLT, Nat.reduceLeDiff, Nat.reduceMul, Int.reduceNeg, Int.reduceToNat, Int.reduceEq, Int.reduceLT, Int.reduceLE, reduceCtorEq, hi, hw, hg, hy, hyt, hxl, h1]
    refine ih _ ?_
    rw [hI, List.take_add_one, hy]; simp
  · rintro x hI
    rw [List.take_length] at hI
    simp only [go_sem, ↓reduceIte, Nat.reduceAdd, Nat.reduceSub, Nat.reduceEqDiff, Nat.reduceLT, Nat.reduceLeDiff, Nat.reduceMul, Int.reduceNeg, Int.reduceToNat, Int.reduceEq, Int.reduceLT, Int.reduceLE, reduceCtorEq]
    rw [hI]; rfl
@[go_sem] theorem specTerms_R (s : Str) (hs : s.length ≤ 1099511627776) : R S0 143 [.str s] = some ⟨[none], .slo 1 ((terms s).map .str)⟩ := by
  have hwl := (words_len s 0).1
  have hwt : ∀ w ∈ words s, w.text.length ≤ 1099511627776 := fun w hw => Nat.le_trans (words_text s 0 w hw) hs
  refine go143 rfl ?_; simp only [go_sem, ↓reduceIte, Nat.reduceAdd, Nat.reduceSub, Nat.reduceEqDiff, Nat.reduceLT, Nat.reduceLeDiff, Nat.reduceMul, Int.reduceNeg, Int.reduceToNat, Int.reduceEq, Int.reduceLT, Int.reduceLE, reduceCtorEq, Tryz.f143, hs]
  refine ends_for (words s).length (by unfold words; omega) (fun i (x : List Str) => mkSt [(3, .own 0), (4, .own 1), (5, .int .i64 i)] [.slo 1 (x.map .str), .slo 3 ((words s).map Wrd.pv)]) (fun i x => x = ((words s).take i).map fun w => stem w.text) 0 [] (by omega) rfl ?_ ?_
  · rintro i x hi hI hw ih
    obtain ⟨y, hy, hg, hd⟩ := drop_get hi default
    have hyt := hwt y (List.mem_of_getElem? hy)
    have hxl : x.length = i := by rw [hI]; simp; omega
    have hwb : i + 1 ≤ 1099511627776 := by unfold words at hi; omega
    have h1 : (i + 1) * 16 ≤ 140737488355328 := by omega
    simp only [go_sem, ↓reduceIte, Nat.reduceAdd, Nat.reduceSub, Nat.reduceEqDiff, Nat.reduceLT, Nat.reduceLeDiff, Nat.reduceMul, Int.reduceNeg, Int.reduceToNat, Int.reduceEq, Int.reduceLT, Int.reduceLE, reduceCtorEq, hi, hw, hg, hy, hyt, hxl, h1]
    refine ih _ ?_
    rw [hI, List.take_add_one, hy]; simp
  · rintro x hI
    rw [List.take_length] at hI
    simp only [go_sem, ↓reduceIte, Nat.reduceAdd, Nat.reduceSub, Nat.reduceEqDiff, Nat.reduceLT, Nat.reduceLeDiff, Nat.reduceMul, Int.reduceNeg, Int.reduceToNat, Int.reduceEq, Int.reduceLT, Int.reduceLE, reduceCtorEq]
    rw [hI]; rfl
/-- What is put into an ordered list. -/
def addS : List Str → Str → List Str
  | [], t => [t]
  | x :: l, t => if Go.Op.bytesLess x t = true then x :: addS l t else if x = t then x :: l else t :: x :: l
@[go_sem] theorem l2Add_R (l : List Str) (t : Str) (hl : l.length ≤ 1099511627776) : R S0 175 [.slo 1 (l.map .str), .str t] = some ⟨[none, none], .slo 1 ((addS l t).map .str)⟩ := by
  have h1 : ∀ i, i ≤ l.length → i * 16 ≤ 140737488355328 := fun i hi => by omega
  refine go175 rfl ?_; simp only [go_sem, ↓reduceIte, Nat.reduceAdd, Nat.reduceSub, Nat.reduceEqDiff, Nat.reduceLT, Nat.reduceLeDiff, Nat.reduceMul, Int.reduceNeg, Int.reduceToNat, Int.reduceEq, Int.reduceLT, Int.reduceLE, reduceCtorEq, Tryz.f175]
  refine ends_for l.length (by omega) (fun i _ => mkSt [(0, .own 0), (1, .str t), (5, .int .i64 i)] [.slo 1 (l.map .str)]) (fun i _ => addS l t = l.take i ++ addS (l.drop i) t) 0 () (by omega) (by simp) ?_ ?_
  · rintro i _ hi hI hw ih
    obtain ⟨y, hy, hg, hd⟩ := drop_get hi default
    have htk : l.take (i + 1) = l.take i ++ [y] := by rw [List.take_add_one, hy]; rfl
    have hlen : (l.take i).length = i := by simp; omega
    have c2 : (l.drop i).take (l.length - i) = l.drop i := List.take_of_length_le (by simp)
    have hdl : (l.drop i).length = l.length - i := List.length_drop
    have hil : i ≤ l.length := by omega
    have b1 : i * 16 ≤ 140737488355328 := by omega
    have b2 : (i + 1) * 16 ≤ 140737488355328 := by omega
    have b3 : (i + 1 + (l.length - i)) * 16 ≤ 140737488355328 := by omega
    rw [hd, addS] at hI
    cases hb : Go.Op.bytesLess y t with
    | true =>
      rw [hb, if_pos rfl] at hI
      simp only [go_sem, ↓reduceIte, Nat.reduceAdd, Nat.reduceSub, Nat.reduceEqDiff, Nat.reduceLT, Nat.reduceLeDiff, Nat.reduceMul, Int.reduceNeg, Int.reduceToNat, Int.reduceEq, Int.reduceLT, Int.reduceLE, reduceCtorEq, hi, hw, hg, hy, hb]
      exact ih () (by rw [hI, htk]; simp)
    | false =>
      rw [hb, if_neg (by simp)] at hI
      by_cases he : y = t
      · rw [if_pos he] at hI
        subst he
        simp only [go_sem, ↓reduceIte, Nat.reduceAdd, Nat.reduceSub, Nat.reduceEqDiff, Nat.reduceLT, Nat.reduceLeDiff, Nat.reduceMul, Int.reduceNeg, Int.reduceToNat, Int.reduceEq, Int.reduceLT, Int.reduceLE, reduceCtorEq, hi, hw, hg, hy, hb]
        rw [hI, ← hd, List.take_append_drop]
      · rw [if_neg he] at hI
        simp only [go_sem, ↓reduceIte, Nat.reduceAdd, Nat.reduceSub, Nat.reduceEqDiff, Nat.reduceLT, Nat.reduceLeDiff, Nat.reduceMul, Int.reduceNeg, Int.reduceToNat, Int.reduceEq, Int.reduceLT, Int.reduceLE, reduceCtorEq, hi, hw, hg, hy, hb, he, c2, hlen, hdl, hil, b1, b2, b3]
        exact ⟨by decide +kernel, by rw [hI, ← hd]⟩
  · rintro _ hI
    have c1 : l.take l.length = l := List.take_length
    have c2 : (l.drop l.length).take (l.length - l.length) = [] := by simp
    have b1 : l.length * 16 ≤ 140737488355328 := by omega
    have b2 : (l.length + 1) * 16 ≤ 140737488355328 := by omega
    rw [List.take_length, List.drop_length, addS] at hI
    simp only [go_sem, ↓reduceIte, Nat.reduceAdd, Nat.reduceSub, Nat.reduceEqDiff, Nat.reduceLT, Nat.reduceLeDiff, Nat.reduceMul, Int.reduceNeg, Int.reduceToNat, Int.reduceEq, Int.reduceLT, Int.reduceLE, reduceCtorEq, c1, c2, b1, b2]
    exact ⟨by decide +kernel, by rw [hI]⟩
mutual
/-- The words of a question that are looked for, behind those that are there. -/
def termsI : Query → List Str → List Str | .mk k _ t _ _ p, out => if k = 2 ∨ k = 3 then out ++ (terms t).filter (· ≠ []) else if k = 7 ∨ k = 8 then termsIL p out else out
def termsIL : List Query → List Str → List Str
  | [], out => out
  | q :: l, out => termsIL l (termsI q out)
end
theorem words_len2 (s : Str) : (terms s).length ≤ s.length := by
  rw [terms, List.length_map]
  exact (words_len s 0).1
theorem termsIL_fold : ∀ (l : List Query) (out : List Str), termsIL l out = l.foldl (fun out q => termsI q out) out
  | [], out => rfl
  | q :: l, out => by rw [termsIL, termsIL_fold l, List.foldl_cons]
theorem termsI_eq : ∀ (q : Query) (out : List Str), termsI q out = if q.kind = 2 ∨ q.kind = 3 then out ++ (terms q.text).filter (· ≠ []) else if q.kind = 7 ∨ q.kind = 8 then q.parts.foldl (fun out q => termsI q out) out else out
  | .mk k f t lo hi p, out => by rw [termsI, termsIL_fold]; rfl
theorem foldl_len : ∀ (l : List Query) (out : List Str), (∀ q ∈ l, ∀ out : List Str, (termsI q out).length ≤ out.length + tot q) → (l.foldl (fun out q => termsI q out) out).length ≤ out.length + totL l
  | [], out, _ => by simp [totL]
  | q :: l, out, h => by
    rw [List.foldl_cons, totL]
    have h1 := h q (by simp) out
    have h2 := foldl_len l (termsI q out) fun p hp => h p (List.mem_cons_of_mem _ hp)
    omega
theorem termsI_len (q : Query) : ∀ out : List Str, (termsI q out).length ≤ out.length + tot q := by
  refine Query.ind (P := fun q => ∀ out : List Str, (termsI q out).length ≤ out.length + tot q) (fun q ih out => ?_) q
  have ht := tot_eq q
  rw [termsI_eq]
  split
  · have h1 := words_len2 q.text
    have h2 : ((terms q.text).filter (· ≠ [])).length ≤ (terms q.text).length := List.length_filter_le _ _
    rw [List.length_append]; omega
  · split
    · have := foldl_len q.parts out ih
      omega
    · omega
/-- The terms of a text that are looked for. -/
def tnz (s : Str) : List Str := (terms s).filter (· ≠ [])
mutual
def termsS : Query → List Str → List Str | .mk k _ t _ _ p, out => if k = 9 then out else termsSL p (if k = 2 ∨ k = 3 then (tnz t).foldl addS out else out)
def termsSL : List Query → List Str → List Str
  | [], out => out
  | q :: l, out => termsSL l (termsS q out)
end
theorem termsSL_fold : ∀ (l : List Query) (out : List Str), termsSL l out = l.foldl (fun out q => termsS q out) out
  | [], out => rfl
  | q :: l, out => by rw [termsSL, termsSL_fold l, List.foldl_cons]
theorem termsS_eq : ∀ (q : Query) (out : List Str), termsS q out = if q.kind = 9 then out else q.parts.foldl (fun out q => termsS q out) (if q.kind = 2 ∨ q.kind = 3 then (tnz q.text).foldl addS out else out)
  | .mk k f t lo hi p, out => by rw [termsS, termsSL_fold]; rfl
theorem addS_len (l : List Str) (t : Str) : (addS l t).length ≤ l.length + 1 := by
  induction l with
  | nil => simp [addS]
  | cons x l ih =>
    simp only [addS]
    split
    · simp; omega
    · split <;> simp
theorem addS_foldl : ∀ (m l : List Str), (m.foldl addS l).length ≤ l.length + m.length
  | [], l => by simp
  | t :: m, l => by
    have := addS_foldl m (addS l t)
    have := addS_len l t
    rw [List.foldl_cons, List.length_cons]; omega
theorem foldlS_len : ∀ (l : List Query) (out : List Str), (∀ q ∈ l, ∀ out : List Str, (termsS q out).length ≤ out.length + tot q) → (l.foldl (fun out q => termsS q out) out).length ≤ out.length + totL l
  | [], out, _ => by simp [totL]
  | q :: l, out, h => by
    rw [List.foldl_cons, totL]
    have h1 := h q (by simp) out
    have h2 := foldlS_len l (termsS q out) fun p hp => h p (List.mem_cons_of_mem _ hp)
    omega
theorem termsS_len (q : Query) : ∀ out : List Str, (termsS q out).length ≤ out.length + tot q := by
  refine Query.ind (P := fun q => ∀ out : List Str, (termsS q out).length ≤ out.length + tot q) (fun q ih out => ?_) q
  have ht := tot_eq q
  have h1 := words_len2 q.text
  have h2 : (tnz q.text).length ≤ (terms q.text).length := List.length_filter_le _ _
  rw [termsS_eq]
  split
  · omega
  · have h3 := addS_foldl (tnz q.text) out
    have := foldlS_len q.parts (if q.kind = 2 ∨ q.kind = 3 then (tnz q.text).foldl addS out else out) ih
    split at this <;> rename_i hk
    · rw [if_pos hk]; omega
    · rw [if_neg hk]; omega
end Go.Proofs.YtjagjfjhinlgiaaGreatDoor.PVE
