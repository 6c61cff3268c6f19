/- Sizes, copies and comparisons of fields and questions. -/
import Derived.Test.YtgnggcpcijcahaaGreatDoorT4
import Derived.Sort.Walk0
set_option linter.unusedVariables false
set_option linter.unusedSimpArgs false
set_option maxRecDepth 100000
namespace Go.Proofs.YtgnggcpcijcahaaGreatDoor.PVE
open PV Query
mutual
def tot : Query → Nat | .mk _ f t _ _ p => f.length + t.length + totL p
def totL : List Query → Nat
  | [] => 0
  | q :: l => tot q + 1 + totL l
end
inductive Query.Lm : Query → Prop
  | mk (q : Query) (hf : q.field.length ≤ 9223372036854775807) (ht : q.text.length ≤ 9223372036854775807) (hp : q.parts.length ≤ 9223372036854775807) (h : ∀ p ∈ q.parts, p.Lm) : q.Lm
def zeroQ : Query := .mk 0 [] [] 0 0 []
end Go.Proofs.YtgnggcpcijcahaaGreatDoor.PVE
namespace Go.Proofs.YtgnggcpcijcahaaGreatDoor.PVE
open PV Query
@[go_sem] theorem Query.snocv (l : List Query) (a lo hi : Int) (b c : Str) (m : List Query) : l.map pv ++ [.agg [.int .i64 a, .str b, .str c, .int .i64 lo, .int .i64 hi, .sl (m.map pv)]] = (l ++ [Query.mk a b c lo hi m]).map pv := by simp [pv_eq, Query.kind, Query.field, Query.text, Query.low, Query.high, Query.parts]
@[go_sem] theorem Query.kind_mk (k lo hi : Int) (f t : Str) (p : List Query) : (Query.mk k f t lo hi p).kind = k := rfl
@[go_sem] theorem Query.field_mk (k lo hi : Int) (f t : Str) (p : List Query) : (Query.mk k f t lo hi p).field = f := rfl
@[go_sem] theorem Query.text_mk (k lo hi : Int) (f t : Str) (p : List Query) : (Query.mk k f t lo hi p).text = t := rfl
@[go_sem] theorem Query.low_mk (k lo hi : Int) (f t : Str) (p : List Query) : (Query.mk k f t lo hi p).low = lo := rfl
@[go_sem] theorem Query.high_mk (k lo hi : Int) (f t : Str) (p : List Query) : (Query.mk k f t lo hi p).high = hi := rfl
@[go_sem] theorem Query.parts_mk (k lo hi : Int) (f t : Str) (p : List Query) : (Query.mk k f t lo hi p).parts = p := rfl
mutual
def turnQ : Query → Query
  | .mk k f t lo hi p => if k = 9 then p.headD zeroQ else if k = 7 ∨ k = 8 then .mk (15 - k) [] [] 0 0 (turnL p) else .mk 9 [] [] 0 0 [.mk k f t lo hi p]
def turnL : List Query → List Query
  | [] => []
  | q :: l => turnQ q :: turnL l
end
mutual
def nodes : Query → Nat | .mk _ _ _ _ _ p => nodesL p
def nodesL : List Query → Nat
  | [] => 0
  | q :: l => nodes q + 1 + nodesL l
end
end Go.Proofs.YtgnggcpcijcahaaGreatDoor.PVE
namespace Go.Proofs.YtgnggcpcijcahaaGreatDoor.PVE
open PV Query
@[go_sem] theorem vals_slice {E : Env} {st : St} {t : Nat} {x : Operand} {lo hi mx : Option Operand} : valsOf E st (.slice t x lo hi mx) = ev E st x :: (lo.toList ++ hi.toList ++ mx.toList).map (ev E st) := by
  cases lo <;> cases hi <;> cases mx <;> simp [valsOf, Go.Op.operands]
attribute [go_sem] Option.toList_some Option.toList_none
@[go_sem] theorem sort_R (l : List Str) (hl : l.length ≤ 1099511627776) : R S0 228 [.slo 1 (l.map .str)] = some ⟨[some (.slo 1 ((l.mergeSort leStr).map .str))], .tup []⟩ := by
  refine R_lib (Eq.trans (b := libSort [.slo 1 (l.map .str)]) (by kernel_rfl) ?_)
  rw [libSort, strsOf_map, strsAll_map, if_pos ⟨rfl, by simpa using hl⟩]
@[go_sem] theorem compact_R (l : List Str) (hl : l.length ≤ 1099511627776) : R S0 229 [.slo 1 (l.map .str)] = some ⟨[none], .slo 1 ((Lib.compact l).map .str)⟩ := by
  refine R_lib (Eq.trans (b := libCompact [.slo 1 (l.map .str)]) (by kernel_rfl) ?_)
  rw [libCompact, strsOf_map, strsAll_map, if_pos ⟨rfl, by simpa using hl⟩]
def uniq (l : List Str) : List Str := Lib.compact (l.mergeSort leStr)
@[go_sem] theorem unique_R (l : List Str) (hl : l.length ≤ 1099511627776) : R S0 199 [.sl (l.map .str)] = some ⟨[none], .slo 1 ((uniq l).map .str)⟩ := by
  have h1 : l.length * 16 ≤ 140737488355328 := by omega
  have h2 : (l.mergeSort leStr).length = l.length := List.length_mergeSort _
  have h3 : (l.mergeSort leStr).length ≤ 1099511627776 := by omega
  have h4 : (Lib.compact (l.mergeSort leStr)).length * 16 ≤ 140737488355328 := by have := compact_len (l.mergeSort leStr); omega
  refine go199 rfl ?_; simp only [go_sem, ↓reduceIte, Nat.reduceAdd, Nat.reduceSub, Nat.reduceEqDiff, Nat.reduceLT, Nat.reduceLeDiff, Nat.reduceMul, Int.reduceNeg, Int.reduceToNat, Int.reduceEq, Int.reduceLT, Int.reduceLE, reduceCtorEq, Tryz.f199, h1, hl, h3, h4]
  rfl
@[go_sem] theorem implWords_R (s : Str) (hs : s.length ≤ 1099511627776) : R S0 164 [.str s] = some ⟨[none], .slo 3 ((words s).map Wrd.pv)⟩ := by
  refine go164 rfl ?_; simp only [go_sem, ↓reduceIte, Nat.reduceAdd, Nat.reduceSub, Nat.reduceEqDiff, Nat.reduceLT, Nat.reduceLeDiff, Nat.reduceMul, Int.reduceNeg, Int.reduceToNat, Int.reduceEq, Int.reduceLT, Int.reduceLE, reduceCtorEq, Tryz.f164, hs]
  refine ends_wh (fun x : Nat × List Wrd => s.length - x.1) (fun x => mkSt [(0, .str s), (3, .own 0), (4, .int .i64 x.1)] [.slo 3 (x.2.map Wrd.pv)]) (fun x => x.1 ≤ s.length + 1 ∧ x.2.length ≤ x.1 ∧ x.2 ++ wordsAt x.1 (s.drop x.1) = words s) (0, []) ⟨by omega, Nat.le_refl _, rfl⟩ ?_
  rintro ⟨i, out⟩ ⟨hi, ho, hI⟩ ih
  simp only at hi ho hI
  by_cases hlt : i < s.length
  · simp only [go_sem, ↓reduceIte, Nat.reduceAdd, Nat.reduceSub, Nat.reduceEqDiff, Nat.reduceLT, Nat.reduceLeDiff, Nat.reduceMul, Int.reduceNeg, Int.reduceToNat, Int.reduceEq, Int.reduceLT, Int.reduceLE, reduceCtorEq, hlt]
    refine ends_wh (fun k : Nat => s.length - k) (fun k => mkSt [(0, .str s), (3, .own 0), (4, .int .i64 k), (5, .int .i64 i)] [.slo 3 (out.map Wrd.pv)]) (fun k => i ≤ k ∧ k ≤ s.length ∧ run (s.drop i) = (k - i) + run (s.drop k)) i ⟨Nat.le_refl _, by omega, by simp⟩ ?_
    rintro k ⟨hk, hkl, hr⟩ ihk
    have hsp := drop_getD hlt (0 : UInt8)
    have hk1 : IntKind.i64.wrap ((k : Int) + 1) = ((k + 1 : Nat) : Int) := wrap_in (by omega) (by omega)
    have hcut : cut s (i : Int) (k : Int) = (s.drop i).take (k - i) := by simp only [cut, Int.toNat_natCast, List.drop_take]
    have hnx : run (s.drop k) = 0 → wordsAt k (s.drop k) = wordsAt (k + 1) (s.drop (k + 1)) := by
      intro h0
      by_cases hkl2 : k < s.length
      · have hdk := drop_getD hkl2 (0 : UInt8)
        have hb : wordB (s.getD k 0) = false := by
          cases hb : wordB (s.getD k 0) with
          | false => rfl
          | true => rw [hdk, run, if_pos hb] at h0; omega
        rw [hdk, words_skip _ _ hb]
      · rw [List.drop_of_length_le (by omega), List.drop_of_length_le (by omega), wordsAt, wordsAt]
    have f1 := fun (h : k = i) (h0 : run (s.drop k) = 0) => ih (k + 1, out) (by simp only; omega) ⟨by simp only; omega, by simp only; omega, by
      have := hnx h0
      subst h
      rw [this] at hI
      exact hI⟩
    have f2 := fun (h : ¬ k = i) (h0 : run (s.drop k) = 0) => ih (k + 1, out ++ [⟨cut s (i : Int) (k : Int), i, k⟩]) (by simp only; omega) ⟨by simp only; omega, by simp; omega, by
      have hb : wordB (s.getD i 0) = true := by
        cases hb : wordB (s.getD i 0) with
        | true => rfl
        | false => rw [hsp, run, if_neg (by rw [hb]; simp), h0] at hr; omega
      have e : i + (k - i) = k := by omega
      have hn2 := hnx h0
      rw [h0, Nat.add_zero] at hr
      rw [hsp, wordsAt, dif_pos hb, ← hsp, hr, e, List.drop_drop, e, hn2] at hI
      simp only [hcut, List.append_assoc]
      exact hI⟩
    simp only at f1 f2
    by_cases hkl2 : k < s.length
    · have hdk := drop_getD hkl2 (0 : UInt8)
      simp only [go_sem, ↓reduceIte, Nat.reduceAdd, Nat.reduceSub, Nat.reduceEqDiff, Nat.reduceLT, Nat.reduceLeDiff, Nat.reduceMul, Int.reduceNeg, Int.reduceToNat, Int.reduceEq, Int.reduceLT, Int.reduceLE, reduceCtorEq, hkl2, hk1]
      refine ⟨fun h => ihk (k + 1) (by omega) ⟨by omega, by omega, ?_⟩, fun h => ?_⟩
      · rw [hr, hdk, run, if_pos (show wordB (s.getD k 0) = true from h)]; omega
      · have h0 : run (s.drop k) = 0 := by rw [hdk, run, if_neg (by rw [show wordB (s.getD k 0) = false from h]; simp)]
        exact ⟨fun h => ⟨⟨hk, hkl⟩, by omega, f2 (by omega) h0⟩, fun h => f1 (by omega) h0⟩
    · have h0 : run (s.drop k) = 0 := by rw [List.drop_of_length_le (by omega)]; rfl
      simp only [go_sem, ↓reduceIte, Nat.reduceAdd, Nat.reduceSub, Nat.reduceEqDiff, Nat.reduceLT, Nat.reduceLeDiff, Nat.reduceMul, Int.reduceNeg, Int.reduceToNat, Int.reduceEq, Int.reduceLT, Int.reduceLE, reduceCtorEq, hkl2, hk1]
      exact ⟨fun h => ⟨⟨hk, hkl⟩, by omega, f2 (by omega) h0⟩, fun h => f1 (by omega) h0⟩
  · simp only [go_sem, ↓reduceIte, Nat.reduceAdd, Nat.reduceSub, Nat.reduceEqDiff, Nat.reduceLT, Nat.reduceLeDiff, Nat.reduceMul, Int.reduceNeg, Int.reduceToNat, Int.reduceEq, Int.reduceLT, Int.reduceLE, reduceCtorEq, hlt]
    rw [List.drop_of_length_le (by omega), wordsAt, List.append_nil] at hI
    rw [hI]
theorem words_text (s : Str) (i : Nat) : ∀ w ∈ wordsAt i s, w.text.length ≤ s.length := by
  induction hn : s.length using Nat.strongRecOn generalizing s i with
  | _ n ih =>
    cases s with
    | nil => intro w hw; rw [wordsAt] at hw; cases hw
    | cons b s =>
      intro w hw
      rw [wordsAt] at hw
      split at hw
      · rename_i hb
        have hr : run (b :: s) = run s + 1 := by simp [run, hb]
        rcases List.mem_cons.1 hw with rfl | hw
        · simp only [List.length_take]; omega
        · have := ih _ (by rw [List.length_drop, hr]; simp at hn ⊢; omega) _ _ rfl w hw
          rw [List.length_drop] at this
          omega
      · have := ih s.length (by simp at hn; omega) s _ rfl w hw
        simp at hn; omega
def terms (s : Str) : List Str := (words s).map fun w => stem w.text
@[go_sem] theorem implTerms_R (s : Str) (hs : s.length ≤ 1099511627776) : R S0 116 [.str s] = some ⟨[none], .slo 1 ((terms s).map .str)⟩ := by
  have hwl := (words_len s 0).1
  have hwt : ∀ w ∈ words s, w.text.length ≤ 1099511627776 := fun w hw => Nat.le_trans (words_text s 0 w hw) hs
  refine go116 rfl ?_; simp only [go_sem, ↓reduceIte, Nat.reduceAdd, Nat.reduceSub, Nat.reduceEqDiff, Nat.reduceLT, Nat.reduceLeDiff, Nat.reduceMul, Int.reduceNeg, Int.reduceToNat, Int.reduceEq, Int.reduceLT, Int.reduceLE, reduceCtorEq, Tryz.f116, hs]
  refine ends_for (words s).length (by unfold words; omega) (fun i (x : List Str) => mkSt [(3, .own 0), (8, .own 1), (9, .int .i64 (words s).length), (10, .int .i64 i)] [.slo 1 (x.map .str), .slo 3 ((words s).map Wrd.pv)]) (fun i x => x = ((words s).take i).map fun w => stem w.text) 0 [] (by omega) rfl ?_ ?_
  · rintro i x hi hI hw ih
    obtain ⟨y, hy, hg, hd⟩ := drop_get hi default
    have hyt := hwt y (List.mem_of_getElem? hy)
    have hxl : x.length = i := by rw [hI]; simp; omega
    have hwb : i + 1 ≤ 1099511627776 := by unfold words at hi; omega
    have h1 : (i + 1) * 16 ≤ 140737488355328 := by omega
    simp only [go_sem, ↓reduceIte, Nat.reduceAdd, Nat.reduceSub, Nat.reduceEqDiff, Nat.reduceLT, Nat.reduceLeDiff, Nat.reduceMul, Int.reduceNeg, Int.reduceToNat, Int.reduceEq, Int.reduceLT, Int.reduceLE, reduceCtorEq, hi, hw, hg, hy, hyt, hxl, h1]
    refine ih _ ?_
    rw [hI, List.take_add_one, hy]; simp
  · rintro x hI
    rw [List.take_length] at hI
    simp only [go_sem, ↓reduceIte, Nat.reduceAdd, Nat.reduceSub, Nat.reduceEqDiff, Nat.reduceLT, Nat.reduceLeDiff, Nat.reduceMul, Int.reduceNeg, Int.reduceToNat, Int.reduceEq, Int.reduceLT, Int.reduceLE, reduceCtorEq]
    rw [hI]; rfl
@[go_sem] theorem specTerms_R (s : Str) (hs : s.length ≤ 1099511627776) : R S0 143 [.str s] = some ⟨[none], .slo 1 ((terms s).map .str)⟩ := by
  have hwl := (words_len s 0).1
  have hwt : ∀ w ∈ words s, w.text.length ≤ 1099511627776 := fun w hw => Nat.le_trans (words_text s 0 w hw) hs
  refine go143 rfl ?_; simp only [go_sem, ↓reduceIte, Nat.reduceAdd, Nat.reduceSub, Nat.reduceEqDiff, Nat.reduceLT, Nat.reduceLeDiff, Nat.reduceMul, Int.reduceNeg, Int.reduceToNat, Int.reduceEq, Int.reduceLT, Int.reduceLE, reduceCtorEq, Tryz.f143, hs]
  refine ends_for (words s).length (by unfold words; omega) (fun i (x : List Str) => mkSt [(3, .own 0), (4, .own 1), (5, .int .i64 i)] [.slo 1 (x.map .str), .slo 3 ((words s).map Wrd.pv)]) (fun i x => x = ((words s).take i).map fun w => stem w.text) 0 [] (by omega) rfl ?_ ?_
  · rintro i x hi hI hw ih
    obtain ⟨y, hy, hg, hd⟩ := drop_get hi default
    have hyt := hwt y (List.mem_of_getElem? hy)
    have hxl : x.length = i := by rw [hI]; simp; omega
    have hwb : i + 1 ≤ 1099511627776 := by unfold words at hi; omega
    have h1 : (i + 1) * 16 ≤ 140737488355328 := by omega
    simp only [go_sem, ↓reduceIte, Nat.reduceAdd, Nat.reduceSub, Nat.reduceEqDiff, Nat.reduceLT, Nat.reduceLeDiff, Nat.reduceMul, Int.reduceNeg, Int.reduceToNat, Int.reduceEq, Int.reduceLT, Int.reduceLE, reduceCtorEq, hi, hw, hg, hy, hyt, hxl, h1]
    refine ih _ ?_
    rw [hI, List.take_add_one, hy]; simp
  · rintro x hI
    rw [List.take_length] at hI
    simp only [go_sem, ↓reduceIte, Nat.reduceAdd, Nat.reduceSub, Nat.reduceEqDiff, Nat.reduceLT, Nat.reduceLeDiff, Nat.reduceMul, Int.reduceNeg, Int.reduceToNat, Int.reduceEq, Int.reduceLT, Int.reduceLE, reduceCtorEq]
    rw [hI]; rfl
def addS : List Str → Str → List Str
  | [], t => [t]
  | x :: l, t => if Go.Op.bytesLess x t = true then x :: addS l t else if x = t then x :: l else t :: x :: l
@[go_sem] theorem l2Add_R (l : List Str) (t : Str) (hl : l.length ≤ 1099511627776) : R S0 196 [.slo 1 (l.map .str), .str t] = some ⟨[none, none], .slo 1 ((addS l t).map .str)⟩ := by
  have h1 : ∀ i, i ≤ l.length → i * 16 ≤ 140737488355328 := fun i hi => by omega
  refine go196 rfl ?_; simp only [go_sem, ↓reduceIte, Nat.reduceAdd, Nat.reduceSub, Nat.reduceEqDiff, Nat.reduceLT, Nat.reduceLeDiff, Nat.reduceMul, Int.reduceNeg, Int.reduceToNat, Int.reduceEq, Int.reduceLT, Int.reduceLE, reduceCtorEq, Tryz.f196]
  refine ends_for l.length (by omega) (fun i _ => mkSt [(0, .own 0), (1, .str t), (5, .int .i64 i)] [.slo 1 (l.map .str)]) (fun i _ => addS l t = l.take i ++ addS (l.drop i) t) 0 () (by omega) (by simp) ?_ ?_
  · rintro i _ hi hI hw ih
    obtain ⟨y, hy, hg, hd⟩ := drop_get hi default
    have htk : l.take (i + 1) = l.take i ++ [y] := by rw [List.take_add_one, hy]; rfl
    have hlen : (l.take i).length = i := by simp; omega
    have c2 : (l.drop i).take (l.length - i) = l.drop i := List.take_of_length_le (by simp)
    have hdl : (l.drop i).length = l.length - i := List.length_drop
    have hil : i ≤ l.length := by omega
    have b1 : i * 16 ≤ 140737488355328 := by omega
    have b2 : (i + 1) * 16 ≤ 140737488355328 := by omega
    have b3 : (i + 1 + (l.length - i)) * 16 ≤ 140737488355328 := by omega
    rw [hd, addS] at hI
    cases hb : Go.Op.bytesLess y t with
    | true =>
      rw [hb, if_pos rfl] at hI
      simp only [go_sem, ↓reduceIte, Nat.reduceAdd, Nat.reduceSub, Nat.reduceEqDiff, Nat.reduceLT, Nat.reduceLeDiff, Nat.reduceMul, Int.reduceNeg, Int.reduceToNat, Int.reduceEq, Int.reduceLT, Int.reduceLE, reduceCtorEq, hi, hw, hg, hy, hb]
      exact ih () (by rw [hI, htk]; simp)
    | false =>
      rw [hb, if_neg (by simp)] at hI
      by_cases he : y = t
      · rw [if_pos he] at hI
        subst he
        simp only [go_sem, ↓reduceIte, Nat.reduceAdd, Nat.reduceSub, Nat.reduceEqDiff, Nat.reduceLT, Nat.reduceLeDiff, Nat.reduceMul, Int.reduceNeg, Int.reduceToNat, Int.reduceEq, Int.reduceLT, Int.reduceLE, reduceCtorEq, hi, hw, hg, hy, hb]
        rw [hI, ← hd, List.take_append_drop]
      · rw [if_neg he] at hI
        simp only [go_sem, ↓reduceIte, Nat.reduceAdd, Nat.reduceSub, Nat.reduceEqDiff, Nat.reduceLT, Nat.reduceLeDiff, Nat.reduceMul, Int.reduceNeg, Int.reduceToNat, Int.reduceEq, Int.reduceLT, Int.reduceLE, reduceCtorEq, hi, hw, hg, hy, hb, he, c2, hlen, hdl, hil, b1, b2, b3]
        exact ⟨by decide +kernel, by rw [hI, ← hd]⟩
  · rintro _ hI
    have c1 : l.take l.length = l := List.take_length
    have c2 : (l.drop l.length).take (l.length - l.length) = [] := by simp
    have b1 : l.length * 16 ≤ 140737488355328 := by omega
    have b2 : (l.length + 1) * 16 ≤ 140737488355328 := by omega
    rw [List.take_length, List.drop_length, addS] at hI
    simp only [go_sem, ↓reduceIte, Nat.reduceAdd, Nat.reduceSub, Nat.reduceEqDiff, Nat.reduceLT, Nat.reduceLeDiff, Nat.reduceMul, Int.reduceNeg, Int.reduceToNat, Int.reduceEq, Int.reduceLT, Int.reduceLE, reduceCtorEq, c1, c2, b1, b2]
    exact ⟨by decide +kernel, by rw [hI]⟩
mutual
def termsI : Query → List Str → List Str | .mk k _ t _ _ p, out => if k = 2 ∨ k = 3 then out ++ (terms t).filter (· ≠ []) else if k = 7 ∨ k = 8 then termsIL p out else out
def termsIL : List Query → List Str → List Str
  | [], out => out
  | q :: l, out => termsIL l (termsI q out)
end
theorem words_len2 (s : Str) : (terms s).length ≤ s.length := by
  rw [terms, List.length_map]
  exact (words_len s 0).1
def tnz (s : Str) : List Str := (terms s).filter (· ≠ [])
mutual
def termsS : Query → List Str → List Str | .mk k _ t _ _ p, out => if k = 9 then out else termsSL p (if k = 2 ∨ k = 3 then (tnz t).foldl addS out else out)
def termsSL : List Query → List Str → List Str
  | [], out => out
  | q :: l, out => termsSL l (termsS q out)
end
theorem addS_len (l : List Str) (t : Str) : (addS l t).length ≤ l.length + 1 := by
  induction l with
  | nil => simp [addS]
  | cons x l ih =>
    simp only [addS]
    split
    · simp; omega
    · split <;> simp
end Go.Proofs.YtgnggcpcijcahaaGreatDoor.PVE
namespace Go.Proofs.YtgnggcpcijcahaaGreatDoor.PVE
open PV Query
abbrev Asc (l : List Str) : Prop := l.Pairwise (· < ·)
theorem bl_iff {x y : Str} : (Go.Op.bytesLess x y = true) = (x < y) := by rw [Go.Proofs.bytesLess_eq]; simp
theorem addS_mem {x : Str} : ∀ {l : List Str} {t : Str}, x ∈ addS l t ↔ x = t ∨ x ∈ l
  | [], t => by simp [addS]
  | y :: l, t => by
    rw [addS]
    split
    · rw [List.mem_cons, addS_mem, List.mem_cons]; grind
    · split
      · rename_i h; subst h; simp
      · simp
theorem str_tri {x y : Str} (h1 : ¬ x < y) (h2 : ¬ x = y) : y < x := by
  rcases Std.lt_trichotomy x y with h | h | h
  · exact absurd h h1
  · exact absurd h h2
  · exact h
theorem addS_asc : ∀ {l : List Str} {t : Str}, Asc l → Asc (addS l t)
  | [], t, _ => by simp [addS]
  | y :: l, t, h => by
    have hy := List.pairwise_cons.1 h
    rw [addS]
    split
    · rename_i hb
      rw [bl_iff] at hb
      refine List.pairwise_cons.2 ⟨fun z hz => ?_, addS_asc hy.2⟩
      rcases addS_mem.1 hz with rfl | hz
      · exact hb
      · exact hy.1 z hz
    · rename_i hb
      rw [bl_iff] at hb
      split
      · exact h
      · rename_i he
        have hlt := str_tri hb he
        refine List.pairwise_cons.2 ⟨fun z hz => ?_, h⟩
        rcases List.mem_cons.1 hz with rfl | hz
        · exact hlt
        · exact List.lt_trans hlt (hy.1 z hz)
theorem foldAdd : ∀ (m l : List Str), Asc l → Asc (m.foldl addS l) ∧ ∀ x, x ∈ m.foldl addS l ↔ x ∈ l ∨ x ∈ m
  | [], l, h => ⟨h, fun x => by simp⟩
  | t :: m, l, h => by
    have := foldAdd m (addS l t) (addS_asc h)
    refine ⟨this.1, fun x => ?_⟩
    rw [List.foldl_cons, this.2 x, addS_mem, List.mem_cons]
    grind
theorem asc_ext : ∀ {l m : List Str}, Asc l → Asc m → (∀ x, x ∈ l ↔ x ∈ m) → l = m
  | [], [], _, _, _ => rfl
  | [], y :: m, _, _, h => absurd ((h y).2 (by simp)) (by simp)
  | y :: l, [], _, _, h => absurd ((h y).1 (by simp)) (by simp)
  | x :: l, y :: m, h1, h2, h => by
    have hx := List.pairwise_cons.1 h1
    have hy := List.pairwise_cons.1 h2
    have hxy : x = y := by
      rcases List.mem_cons.1 ((h x).1 (by simp)) with e | e
      · exact e
      · rcases List.mem_cons.1 ((h y).2 (by simp)) with e2 | e2
        · exact e2.symm
        · exact absurd (hx.1 y e2) (List.lt_asymm (hy.1 x e))
    subst hxy
    congr 1
    refine asc_ext hx.2 hy.2 fun z => ?_
    have hz := h z
    simp only [List.mem_cons] at hz
    constructor
    · intro hm
      rcases hz.1 (.inr hm) with rfl | h
      · exact absurd (hx.1 z hm) (List.lt_irrefl z)
      · exact h
    · intro hm
      rcases hz.2 (.inr hm) with rfl | h
      · exact absurd (hy.1 z hm) (List.lt_irrefl z)
      · exact h
theorem compact_mem {x : Str} (l : List Str) : x ∈ Lib.compact l ↔ x ∈ l := by
  unfold Lib.compact Lib.compactUpTo
  simp only [List.mem_map, List.mem_filter, List.mem_range]
  constructor
  · rintro ⟨j, ⟨hj, _⟩, rfl⟩
    rw [getElem!_pos (l.toArray) j (by simpa using hj)]
    simp
  · intro hx
    obtain ⟨i, hi, rfl⟩ := List.getElem_of_mem hx
    have key : ∀ i (hi : i < l.length), ∃ j, (j < l.length ∧ Lib.keeps l.toArray j = true) ∧ l.toArray[j]! = l[i] := by
      intro i
      induction i with
      | zero => intro hi; exact ⟨0, ⟨hi, by simp [Lib.keeps]⟩, by rw [getElem!_pos (l.toArray) 0 (by simpa using hi)]; simp⟩
      | succ i ih =>
        intro hi
        have e1 : l.toArray[i + 1]! = l[i + 1] := by rw [getElem!_pos (l.toArray) (i + 1) (by simpa using hi)]; simp
        have e0 : l.toArray[i]! = l[i] := by rw [getElem!_pos (l.toArray) i (by simp; omega)]; simp
        by_cases hk : Lib.keeps l.toArray (i + 1) = true
        · exact ⟨i + 1, ⟨hi, hk⟩, e1⟩
        · obtain ⟨j, hj, hj2⟩ := ih (by omega)
          refine ⟨j, hj, ?_⟩
          simp only [Lib.keeps, decide_eq_true_eq, not_or, Nat.add_sub_cancel, ne_eq, Decidable.not_not] at hk
          rw [hj2, ← e1, hk.2, e0]
    obtain ⟨j, h1, h2⟩ := key i hi
    exact ⟨j, h1, h2⟩
theorem compact_asc (l : List Str) (h : l.Pairwise (· ≤ ·)) : Asc (Lib.compact l) := by
  unfold Lib.compact Lib.compactUpTo Asc
  rw [List.pairwise_map, List.pairwise_filter]
  have h2 : (List.range l.length).Pairwise (fun a b => a < b ∧ b < l.length) := by
    refine List.Pairwise.imp_of_mem (R := (· < ·)) ?_ List.pairwise_lt_range
    intro a b ha hb hab
    exact ⟨hab, by simpa using hb⟩
  refine h2.imp ?_
  rintro a b ⟨hab, hb⟩ _ hk
  simp only [Lib.keeps, decide_eq_true_eq] at hk
  have hk := hk.resolve_left (by omega)
  rw [getElem!_pos (l.toArray) b (by simpa using hb), getElem!_pos (l.toArray) (b - 1) (by simp; omega)] at hk
  rw [getElem!_pos (l.toArray) b (by simpa using hb), getElem!_pos (l.toArray) a (by simp; omega)]
  simp only [List.getElem_toArray] at hk ⊢
  rw [List.pairwise_iff_getElem] at h
  have h1 : l[b - 1] ≤ l[b] := h (b - 1) b (by omega) hb (by omega)
  have h3 : l[a] ≤ l[b - 1] := by
    by_cases e : a = b - 1
    · subst e; exact Std.le_refl _
    · exact h a (b - 1) (by omega) (by omega) (by omega)
  have h4 : l[b - 1] < l[b] := Std.lt_of_le_of_ne h1 fun e => hk e.symm
  exact Std.lt_of_le_of_lt h3 h4
theorem uniq_asc (l : List Str) : Asc (uniq l) := by
  refine compact_asc _ ?_
  have := List.pairwise_mergeSort (le := leStr) (fun a b c h1 h2 => by simp only [leStr, decide_eq_true_eq] at *; exact Std.le_trans h1 h2) (fun a b => by simp only [leStr, Bool.or_eq_true, decide_eq_true_eq]; exact Std.le_total) l
  exact this.imp fun h => by simpa [leStr] using h
theorem uniq_mem {x : Str} (l : List Str) : x ∈ uniq l ↔ x ∈ l := by
  rw [uniq, compact_mem, List.mem_mergeSort]
theorem nameOk_len {s : Str} (h : nameOk s = true) : s.length ≤ 8 := by
  simp only [nameOk, inB, Bool.and_eq_true, decide_eq_true_eq] at h
  omega
end Go.Proofs.YtgnggcpcijcahaaGreatDoor.PVE
