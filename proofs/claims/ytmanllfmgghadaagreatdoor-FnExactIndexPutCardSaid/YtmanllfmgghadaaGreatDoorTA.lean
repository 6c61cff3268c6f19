/- Sizes, copies and comparisons of fields and questions. -/
import Derived.Test.YtmanllfmgghadaaGreatDoorT4
import Derived.Sort.Walk0
set_option linter.unusedVariables false
set_option linter.unusedSimpArgs false
set_option maxRecDepth 100000
namespace Go.Proofs.YtmanllfmgghadaaGreatDoor.PVE
open PV Query
mutual
def tot : Query → Nat | .mk _ f t _ _ p => f.length + t.length + totL p
def totL : List Query → Nat
  | [] => 0
  | q :: l => tot q + 1 + totL l
end
inductive Query.Lm : Query → Prop
  | mk (q : Query) (hf : q.field.length ≤ 9223372036854775807) (ht : q.text.length ≤ 9223372036854775807) (hp : q.parts.length ≤ 9223372036854775807) (h : ∀ p ∈ q.parts, p.Lm) : q.Lm
def zeroQ : Query := .mk 0 [] [] 0 0 []
def totF : List Field → Nat
  | [] => 0
  | f :: l => f.name.length + 1 + totF l
theorem totF_app : ∀ (l m : List Field), totF (l ++ m) = totF l + totF m
  | [], m => by simp [totF]
  | q :: l, m => by rw [List.cons_append, totF, totF, totF_app l m]; omega
theorem totF_len : ∀ l : List Field, l.length ≤ totF l
  | [] => Nat.le_refl _
  | q :: l => by have := totF_len l; rw [totF, List.length_cons]; omega
theorem totF_mem : ∀ {l : List Field} {q : Field}, q ∈ l → q.name.length ≤ totF l
  | x :: l, q, h => by
    rw [totF]
    rcases List.mem_cons.1 h with rfl | h
    · omega
    · have := totF_mem h; omega
theorem fsm_of_tot {l : List Field} (h : totF l ≤ 1099511627776) : FSm l := ⟨by have := totF_len l; omega, fun f hf => by have := totF_mem hf; omega⟩
def szFS (l : List Field) (left : Int) : Int := if (totF l : Int) ≤ left then left - totF l else -1
@[go_sem] theorem szField_R (f : Field) (hf : f.name.length ≤ 9223372036854775807) (left : Int) (h0 : 0 ≤ left) (h1 : left ≤ 1099511627776) : R S0 111 [.agg [.str f.name, .int .i64 f.kind, .int .i64 f.weight], .int .i64 left] = some ⟨[none, none], .int .i64 (if (f.name.length : Int) ≤ left then left - f.name.length else -1)⟩ := by
  have hw : IntKind.i64.wrap (left - f.name.length) = left - f.name.length := wrap_in (by omega) (by omega)
  refine go111 rfl ?_; simp only [go_sem, ↓reduceIte, Nat.reduceAdd, Nat.reduceSub, Nat.reduceEqDiff, Nat.reduceLT, Nat.reduceLeDiff, Nat.reduceMul, Int.reduceNeg, Int.reduceToNat, Int.reduceEq, Int.reduceLT, Int.reduceLE, reduceCtorEq, Tryz.f111, hw]
  refine ⟨fun h => by rw [if_neg (by omega)], fun h => by rw [if_pos (by omega)]⟩
@[go_sem] theorem szFieldS_R (l : List Field) (hl : l.length ≤ 9223372036854775807) (hn : ∀ f ∈ l, f.name.length ≤ 9223372036854775807) (left : Int) (h0 : 0 ≤ left) (h1 : left ≤ 1099511627776) : R S0 50 [.sl (l.map Field.pv), .int .i64 left] = some ⟨[none, none], .int .i64 (szFS l left)⟩ := by
  have hw : IntKind.i64.wrap (left - l.length) = left - l.length := wrap_in (by omega) (by omega)
  have hlt := totF_len l
  by_cases hc : left - (l.length : Int) < 0
  · refine go50 rfl ?_; simp only [go_sem, ↓reduceIte, Nat.reduceAdd, Nat.reduceSub, Nat.reduceEqDiff, Nat.reduceLT, Nat.reduceLeDiff, Nat.reduceMul, Int.reduceNeg, Int.reduceToNat, Int.reduceEq, Int.reduceLT, Int.reduceLE, reduceCtorEq, Tryz.f50, hw, hc]
    rw [szFS, if_neg (by omega)]
  · refine go50 rfl ?_; simp only [go_sem, ↓reduceIte, Nat.reduceAdd, Nat.reduceSub, Nat.reduceEqDiff, Nat.reduceLT, Nat.reduceLeDiff, Nat.reduceMul, Int.reduceNeg, Int.reduceToNat, Int.reduceEq, Int.reduceLT, Int.reduceLE, reduceCtorEq, Tryz.f50, hw, hc]
    refine ends_for l.length (by omega) (fun i (x : Int) => mkSt [(0, .sl (l.map Field.pv)), (1, .int .i64 x), (5, .int .i64 i)] []) (fun i x => 0 ≤ x ∧ x + totF (l.take i) + (l.length - i : Nat) = left) 0 (left - l.length) (by omega) ⟨by omega, by simp [totF]⟩ ?_ ?_
    · rintro i x hi ⟨hx0, hx1⟩ hw ih
      obtain ⟨q, hq, hg, hd⟩ := drop_get hi default
      have hm := List.mem_of_getElem? hq
      have hqn := hn q hm
      have hxb : x ≤ 1099511627776 := by omega
      have hll : l = l.take i ++ q :: l.drop (i + 1) := by rw [← hd, List.take_append_drop]
      have hsum : totF l = totF (l.take i) + (q.name.length + 1 + totF (l.drop (i + 1))) := by
        conv => lhs; rw [hll]
        rw [totF_app, totF]
      have hdl := totF_len (l.drop (i + 1))
      rw [List.length_drop] at hdl
      have htk : l.take (i + 1) = l.take i ++ [q] := by rw [List.take_add_one, hq]; rfl
      simp only [go_sem, ↓reduceIte, Nat.reduceAdd, Nat.reduceSub, Nat.reduceEqDiff, Nat.reduceLT, Nat.reduceLeDiff, Nat.reduceMul, Int.reduceNeg, Int.reduceToNat, Int.reduceEq, Int.reduceLT, Int.reduceLE, reduceCtorEq, hi, hw, hg, hqn, hx0, hxb]
      refine ⟨fun hneg => ?_, fun hneg => ih _ ⟨by omega, ?_⟩⟩
      · rw [szFS, if_neg]
        split at hneg <;> omega
      · rw [htk, totF_app, totF, totF]
        split at hneg <;> rename_i hle
        · rw [if_pos hle]; omega
        · omega
    · rintro x ⟨hx0, hx1⟩
      rw [List.take_length] at hx1
      simp only [go_sem, ↓reduceIte, Nat.reduceAdd, Nat.reduceSub, Nat.reduceEqDiff, Nat.reduceLT, Nat.reduceLeDiff, Nat.reduceMul, Int.reduceNeg, Int.reduceToNat, Int.reduceEq, Int.reduceLT, Int.reduceLE, reduceCtorEq]
      rw [szFS, if_pos (by omega)]
      omega
@[go_sem] theorem toField_R (f : Field) : R S0 118 [.agg [.str f.name, .int .i64 f.kind, .int .i64 f.weight]] = some ⟨[none], .agg [.str f.name, .int .i64 f.kind, .int .i64 f.weight]⟩ := by
  refine go118 rfl ?_; simp only [go_sem, ↓reduceIte, Nat.reduceAdd, Nat.reduceSub, Nat.reduceEqDiff, Nat.reduceLT, Nat.reduceLeDiff, Nat.reduceMul, Int.reduceNeg, Int.reduceToNat, Int.reduceEq, Int.reduceLT, Int.reduceLE, reduceCtorEq, Tryz.f118]
@[go_sem] theorem toFieldS_R (l : List Field) (hl : l.length ≤ 1099511627776) : R S0 55 [.sl (l.map Field.pv)] = some ⟨[none], .slo 3 (l.map Field.pv)⟩ := by
  have h1 : l.length * 32 ≤ 140737488355328 := by omega
  have e1 : List.replicate l.length (PV.agg [.str [], .int .i64 0, .int .i64 0]) = (List.replicate l.length (Field.mk [] 0 0)).map Field.pv := by rw [List.map_replicate]; rfl
  refine go55 rfl ?_; simp only [go_sem, ↓reduceIte, Nat.reduceAdd, Nat.reduceSub, Nat.reduceEqDiff, Nat.reduceLT, Nat.reduceLeDiff, Nat.reduceMul, Int.reduceNeg, Int.reduceToNat, Int.reduceEq, Int.reduceLT, Int.reduceLE, reduceCtorEq, Tryz.f55, h1, e1]
  refine ends_for l.length (by omega) (fun i (x : List Field) => mkSt [(0, .sl (l.map Field.pv)), (3, .own 0), (4, .int .i64 i)] [.slo 3 (x.map Field.pv)]) (fun i x => x = l.take i ++ List.replicate (l.length - i) (Field.mk [] 0 0)) 0 (List.replicate l.length (Field.mk [] 0 0)) (by omega) (by simp) ?_ ?_
  · rintro i x hi hI hw ih
    obtain ⟨q, hq, hg, hd⟩ := drop_get hi default
    have hxl : x.length = l.length := by rw [hI]; simp; omega
    have hix : i < x.length := by omega
    have hxi : x[i]? = some (x[i]'hix) := List.getElem?_eq_getElem hix
    simp only [go_sem, ↓reduceIte, Nat.reduceAdd, Nat.reduceSub, Nat.reduceEqDiff, Nat.reduceLT, Nat.reduceLeDiff, Nat.reduceMul, Int.reduceNeg, Int.reduceToNat, Int.reduceEq, Int.reduceLT, Int.reduceLE, reduceCtorEq, hi, hw, hg, hix, hxi]
    refine ih _ ?_
    have e2 : l.length - i = (l.length - (i + 1)) + 1 := by omega
    rw [hI, List.set_append_right _ _ (by simp; omega), List.take_add_one, hq, e2, List.replicate_succ]
    simp [Nat.min_eq_left (Nat.le_of_lt hi)]
  · rintro x hI
    simp only [go_sem, ↓reduceIte, Nat.reduceAdd, Nat.reduceSub, Nat.reduceEqDiff, Nat.reduceLT, Nat.reduceLeDiff, Nat.reduceMul, Int.reduceNeg, Int.reduceToNat, Int.reduceEq, Int.reduceLT, Int.reduceLE, reduceCtorEq]
    rw [hI]
    simp
@[go_sem] theorem eqField_R (f : Field) : R S0 127 [.agg [.str f.name, .int .i64 f.kind, .int .i64 f.weight], .agg [.str f.name, .int .i64 f.kind, .int .i64 f.weight]] = some ⟨[none, none], .bool true⟩ := by
  refine go127 rfl ?_; simp only [go_sem, ↓reduceIte, Nat.reduceAdd, Nat.reduceSub, Nat.reduceEqDiff, Nat.reduceLT, Nat.reduceLeDiff, Nat.reduceMul, Int.reduceNeg, Int.reduceToNat, Int.reduceEq, Int.reduceLT, Int.reduceLE, reduceCtorEq, Tryz.f127]
@[go_sem] theorem eqFieldS_R (l : List Field) (hl : l.length ≤ 1099511627776) : R S0 60 [.sl (l.map Field.pv), .sl (l.map Field.pv)] = some ⟨[none, none], .bool true⟩ := by
  refine go60 rfl ?_; simp only [go_sem, ↓reduceIte, Nat.reduceAdd, Nat.reduceSub, Nat.reduceEqDiff, Nat.reduceLT, Nat.reduceLeDiff, Nat.reduceMul, Int.reduceNeg, Int.reduceToNat, Int.reduceEq, Int.reduceLT, Int.reduceLE, reduceCtorEq, Tryz.f60]
  refine ends_for l.length (by omega) (fun i _ => mkSt [(0, .sl (l.map Field.pv)), (1, .sl (l.map Field.pv)), (5, .int .i64 i)] []) (fun i _ => True) 0 () (by omega) trivial ?_ ?_
  · rintro i _ hi - hw ih
    obtain ⟨q, hq, hg, hd⟩ := drop_get hi default
    simp only [go_sem, ↓reduceIte, Nat.reduceAdd, Nat.reduceSub, Nat.reduceEqDiff, Nat.reduceLT, Nat.reduceLeDiff, Nat.reduceMul, Int.reduceNeg, Int.reduceToNat, Int.reduceEq, Int.reduceLT, Int.reduceLE, reduceCtorEq, hi, hw, hg]
    exact ih () trivial
  · rintro _ -
    simp only [go_sem, ↓reduceIte, Nat.reduceAdd, Nat.reduceSub, Nat.reduceEqDiff, Nat.reduceLT, Nat.reduceLeDiff, Nat.reduceMul, Int.reduceNeg, Int.reduceToNat, Int.reduceEq, Int.reduceLT, Int.reduceLE, reduceCtorEq]
end Go.Proofs.YtmanllfmgghadaaGreatDoor.PVE
namespace Go.Proofs.YtmanllfmgghadaaGreatDoor.PVE
open PV Query
@[go_sem] theorem Query.snocv (l : List Query) (a lo hi : Int) (b c : Str) (m : List Query) : l.map pv ++ [.agg [.int .i64 a, .str b, .str c, .int .i64 lo, .int .i64 hi, .sl (m.map pv)]] = (l ++ [Query.mk a b c lo hi m]).map pv := by simp [pv_eq, Query.kind, Query.field, Query.text, Query.low, Query.high, Query.parts]
@[go_sem] theorem Query.kind_mk (k lo hi : Int) (f t : Str) (p : List Query) : (Query.mk k f t lo hi p).kind = k := rfl
@[go_sem] theorem Query.field_mk (k lo hi : Int) (f t : Str) (p : List Query) : (Query.mk k f t lo hi p).field = f := rfl
@[go_sem] theorem Query.text_mk (k lo hi : Int) (f t : Str) (p : List Query) : (Query.mk k f t lo hi p).text = t := rfl
@[go_sem] theorem Query.low_mk (k lo hi : Int) (f t : Str) (p : List Query) : (Query.mk k f t lo hi p).low = lo := rfl
@[go_sem] theorem Query.high_mk (k lo hi : Int) (f t : Str) (p : List Query) : (Query.mk k f t lo hi p).high = hi := rfl
@[go_sem] theorem Query.parts_mk (k lo hi : Int) (f t : Str) (p : List Query) : (Query.mk k f t lo hi p).parts = p := rfl
mutual
def turnQ : Query → Query
  | .mk k f t lo hi p => if k = 9 then p.headD zeroQ else if k = 7 ∨ k = 8 then .mk (15 - k) [] [] 0 0 (turnL p) else .mk 9 [] [] 0 0 [.mk k f t lo hi p]
def turnL : List Query → List Query
  | [] => []
  | q :: l => turnQ q :: turnL l
end
theorem markText_ex (k : Nat) (hk : k ≤ 1099511627776) : ∃ r, R S0 66 [.int .i64 k] = some r ∧ ∃ s : Str, r = ⟨[none], .str s⟩ := by
  refine (fun ⟨r, h, hp⟩ => ⟨r, go66 rfl h, hp⟩ : (∃ r, Ends S0 _ _ r ∧ _) → _) ?_
  simp only [go_sem, ↓reduceIte, Nat.reduceAdd, Nat.reduceSub, Nat.reduceEqDiff, Nat.reduceLT, Nat.reduceLeDiff, Nat.reduceMul, Int.reduceNeg, Int.reduceToNat, Int.reduceEq, Int.reduceLT, Int.reduceLE, reduceCtorEq, Tryz.f66, ex_if, ex_bool, ex_and, ex_eq]
  refine ⟨fun _ => ⟨_, rfl⟩, fun _ => ?_⟩
  refine ends_wx (fun x : Nat × Str => x.1) (fun x => mkSt [(0, .int .i64 x.1), (3, .str x.2)] []) (fun x => x.2.length + x.1 ≤ 1099511627776) (k, []) (by simpa using hk) ?_
  rintro ⟨n, out⟩ hI ih
  simp only at hI
  cases n with
  | zero =>
    have h0 : ¬ (0 : Int) < ((0 : Nat) : Int) := by omega
    have h1 : out.length + 1 ≤ 9223372036854775807 := by omega
    have h2 : 1 + out.length ≤ 9223372036854775807 := by omega
    simp only [go_sem, ↓reduceIte, Nat.reduceAdd, Nat.reduceSub, Nat.reduceEqDiff, Nat.reduceLT, Nat.reduceLeDiff, Nat.reduceMul, Int.reduceNeg, Int.reduceToNat, Int.reduceEq, Int.reduceLT, Int.reduceLE, reduceCtorEq, h0, h1, h2, ex_if, ex_bool, ex_and, ex_eq]
    exact ⟨_, rfl⟩
  | succ m =>
    have h0 : (0 : Int) < ((m + 1 : Nat) : Int) := by omega
    have h2 : 1 + out.length ≤ 9223372036854775807 := by omega
    have h3 : ((m + 1 : Nat) : Int).tmod 10 = (((m + 1) % 10 : Nat) : Int) := (Int.ofNat_tmod (m + 1) 10).symm
    have h4 : ((m + 1 : Nat) : Int).tdiv 10 = (((m + 1) / 10 : Nat) : Int) := (Int.ofNat_tdiv (m + 1) 10).symm
    have h5 : IntKind.i64.wrap (((m + 1) / 10 : Nat) : Int) = (((m + 1) / 10 : Nat) : Int) := wrap_in (by omega) (by omega)
    have h6 : IntKind.i64.wrap (48 + (((m + 1) % 10 : Nat) : Int)) = ((48 + (m + 1) % 10 : Nat) : Int) := by rw [wrap_in (by omega) (by omega)]; omega
    have h7 : IntKind.u8.wrap ((48 + (m + 1) % 10 : Nat) : Int) = ((48 + (m + 1) % 10 : Nat) : Int) := by rw [IntKind.wrap_u8]; omega
    simp only [go_sem, ↓reduceIte, Nat.reduceAdd, Nat.reduceSub, Nat.reduceEqDiff, Nat.reduceLT, Nat.reduceLeDiff, Nat.reduceMul, Int.reduceNeg, Int.reduceToNat, Int.reduceEq, Int.reduceLT, Int.reduceLE, reduceCtorEq, h0, h2, h3, h4, h5, h6, h7, ex_if, ex_bool, ex_and, ex_eq]
    exact ⟨rfl, ih ((m + 1) / 10, _ :: out) (by simp only; omega) (by simp only [List.length_cons]; omega)⟩
noncomputable def mT (k : Nat) : Str := open Classical in if h : k ≤ 1099511627776 then (markText_ex k h).choose_spec.2.choose else []
@[go_sem] theorem markText_R (k : Nat) (hk : k ≤ 1099511627776) : R S0 66 [.int .i64 k] = some ⟨[none], .str (mT k)⟩ := by
  have h := (markText_ex k hk).choose_spec
  rw [h.1, h.2.choose_spec, mT, dif_pos hk]
mutual
def nodes : Query → Nat | .mk _ _ _ _ _ p => nodesL p
def nodesL : List Query → Nat
  | [] => 0
  | q :: l => nodes q + 1 + nodesL l
end
mutual
noncomputable def mkQ (k : Nat) : Query → Query | .mk _ _ _ _ _ p => .mk k (mT (k + 1)) (mT (k + 2)) (k + 3 : Nat) (k + 4 : Nat) (mkL (k + 5) p)
noncomputable def mkL (k : Nat) : List Query → List Query
  | [] => []
  | q :: l => mkQ k q :: mkL (k + 5 * (nodes q + 1)) l
end
end Go.Proofs.YtmanllfmgghadaaGreatDoor.PVE
namespace Go.Proofs.YtmanllfmgghadaaGreatDoor.PVE
open PV Query
@[go_sem] theorem vals_slice {E : Env} {st : St} {t : Nat} {x : Operand} {lo hi mx : Option Operand} : valsOf E st (.slice t x lo hi mx) = ev E st x :: (lo.toList ++ hi.toList ++ mx.toList).map (ev E st) := by
  cases lo <;> cases hi <;> cases mx <;> simp [valsOf, Go.Op.operands]
attribute [go_sem] Option.toList_some Option.toList_none
def uniq (l : List Str) : List Str := Lib.compact (l.mergeSort leStr)
@[go_sem] theorem implWords_R (s : Str) (hs : s.length ≤ 1099511627776) : R S0 225 [.str s] = some ⟨[none], .slo 3 ((words s).map Wrd.pv)⟩ := by
  refine go225 rfl ?_; simp only [go_sem, ↓reduceIte, Nat.reduceAdd, Nat.reduceSub, Nat.reduceEqDiff, Nat.reduceLT, Nat.reduceLeDiff, Nat.reduceMul, Int.reduceNeg, Int.reduceToNat, Int.reduceEq, Int.reduceLT, Int.reduceLE, reduceCtorEq, Tryz.f225, hs]
  refine ends_wh (fun x : Nat × List Wrd => s.length - x.1) (fun x => mkSt [(0, .str s), (3, .own 0), (4, .int .i64 x.1)] [.slo 3 (x.2.map Wrd.pv)]) (fun x => x.1 ≤ s.length + 1 ∧ x.2.length ≤ x.1 ∧ x.2 ++ wordsAt x.1 (s.drop x.1) = words s) (0, []) ⟨by omega, Nat.le_refl _, rfl⟩ ?_
  rintro ⟨i, out⟩ ⟨hi, ho, hI⟩ ih
  simp only at hi ho hI
  by_cases hlt : i < s.length
  · simp only [go_sem, ↓reduceIte, Nat.reduceAdd, Nat.reduceSub, Nat.reduceEqDiff, Nat.reduceLT, Nat.reduceLeDiff, Nat.reduceMul, Int.reduceNeg, Int.reduceToNat, Int.reduceEq, Int.reduceLT, Int.reduceLE, reduceCtorEq, hlt]
    refine ends_wh (fun k : Nat => s.length - k) (fun k => mkSt [(0, .str s), (3, .own 0), (4, .int .i64 k), (5, .int .i64 i)] [.slo 3 (out.map Wrd.pv)]) (fun k => i ≤ k ∧ k ≤ s.length ∧ run (s.drop i) = (k - i) + run (s.drop k)) i ⟨Nat.le_refl _, by omega, by simp⟩ ?_
    rintro k ⟨hk, hkl, hr⟩ ihk
    have hsp := drop_getD hlt (0 : UInt8)
    have hk1 : IntKind.i64.wrap ((k : Int) + 1) = ((k + 1 : Nat) : Int) := wrap_in (by omega) (by omega)
    have hcut : cut s (i : Int) (k : Int) = (s.drop i).take (k - i) := by simp only [cut, Int.toNat_natCast, List.drop_take]
    have hnx : run (s.drop k) = 0 → wordsAt k (s.drop k) = wordsAt (k + 1) (s.drop (k + 1)) := by
      intro h0
      by_cases hkl2 : k < s.length
      · have hdk := drop_getD hkl2 (0 : UInt8)
        have hb : wordB (s.getD k 0) = false := by
          cases hb : wordB (s.getD k 0) with
          | false => rfl
          | true => rw [hdk, run, if_pos hb] at h0; omega
        rw [hdk, words_skip _ _ hb]
      · rw [List.drop_of_length_le (by omega), List.drop_of_length_le (by omega), wordsAt, wordsAt]
    have f1 := fun (h : k = i) (h0 : run (s.drop k) = 0) => ih (k + 1, out) (by simp only; omega) ⟨by simp only; omega, by simp only; omega, by
      have := hnx h0
      subst h
      rw [this] at hI
      exact hI⟩
    have f2 := fun (h : ¬ k = i) (h0 : run (s.drop k) = 0) => ih (k + 1, out ++ [⟨cut s (i : Int) (k : Int), i, k⟩]) (by simp only; omega) ⟨by simp only; omega, by simp; omega, by
      have hb : wordB (s.getD i 0) = true := by
        cases hb : wordB (s.getD i 0) with
        | true => rfl
        | false => rw [hsp, run, if_neg (by rw [hb]; simp), h0] at hr; omega
      have e : i + (k - i) = k := by omega
      have hn2 := hnx h0
      rw [h0, Nat.add_zero] at hr
      rw [hsp, wordsAt, dif_pos hb, ← hsp, hr, e, List.drop_drop, e, hn2] at hI
      simp only [hcut, List.append_assoc]
      exact hI⟩
    simp only at f1 f2
    by_cases hkl2 : k < s.length
    · have hdk := drop_getD hkl2 (0 : UInt8)
      simp only [go_sem, ↓reduceIte, Nat.reduceAdd, Nat.reduceSub, Nat.reduceEqDiff, Nat.reduceLT, Nat.reduceLeDiff, Nat.reduceMul, Int.reduceNeg, Int.reduceToNat, Int.reduceEq, Int.reduceLT, Int.reduceLE, reduceCtorEq, hkl2, hk1]
      refine ⟨fun h => ihk (k + 1) (by omega) ⟨by omega, by omega, ?_⟩, fun h => ?_⟩
      · rw [hr, hdk, run, if_pos (show wordB (s.getD k 0) = true from h)]; omega
      · have h0 : run (s.drop k) = 0 := by rw [hdk, run, if_neg (by rw [show wordB (s.getD k 0) = false from h]; simp)]
        exact ⟨fun h => ⟨⟨hk, hkl⟩, by omega, f2 (by omega) h0⟩, fun h => f1 (by omega) h0⟩
    · have h0 : run (s.drop k) = 0 := by rw [List.drop_of_length_le (by omega)]; rfl
      simp only [go_sem, ↓reduceIte, Nat.reduceAdd, Nat.reduceSub, Nat.reduceEqDiff, Nat.reduceLT, Nat.reduceLeDiff, Nat.reduceMul, Int.reduceNeg, Int.reduceToNat, Int.reduceEq, Int.reduceLT, Int.reduceLE, reduceCtorEq, hkl2, hk1]
      exact ⟨fun h => ⟨⟨hk, hkl⟩, by omega, f2 (by omega) h0⟩, fun h => f1 (by omega) h0⟩
  · simp only [go_sem, ↓reduceIte, Nat.reduceAdd, Nat.reduceSub, Nat.reduceEqDiff, Nat.reduceLT, Nat.reduceLeDiff, Nat.reduceMul, Int.reduceNeg, Int.reduceToNat, Int.reduceEq, Int.reduceLT, Int.reduceLE, reduceCtorEq, hlt]
    rw [List.drop_of_length_le (by omega), wordsAt, List.append_nil] at hI
    rw [hI]
theorem words_text (s : Str) (i : Nat) : ∀ w ∈ wordsAt i s, w.text.length ≤ s.length := by
  induction hn : s.length using Nat.strongRecOn generalizing s i with
  | _ n ih =>
    cases s with
    | nil => intro w hw; rw [wordsAt] at hw; cases hw
    | cons b s =>
      intro w hw
      rw [wordsAt] at hw
      split at hw
      · rename_i hb
        have hr : run (b :: s) = run s + 1 := by simp [run, hb]
        rcases List.mem_cons.1 hw with rfl | hw
        · simp only [List.length_take]; omega
        · have := ih _ (by rw [List.length_drop, hr]; simp at hn ⊢; omega) _ _ rfl w hw
          rw [List.length_drop] at this
          omega
      · have := ih s.length (by simp at hn; omega) s _ rfl w hw
        simp at hn; omega
def terms (s : Str) : List Str := (words s).map fun w => stem w.text
@[go_sem] theorem implTerms_R (s : Str) (hs : s.length ≤ 1099511627776) : R S0 180 [.str s] = some ⟨[none], .slo 1 ((terms s).map .str)⟩ := by
  have hwl := (words_len s 0).1
  have hwt : ∀ w ∈ words s, w.text.length ≤ 1099511627776 := fun w hw => Nat.le_trans (words_text s 0 w hw) hs
  refine go180 rfl ?_; simp only [go_sem, ↓reduceIte, Nat.reduceAdd, Nat.reduceSub, Nat.reduceEqDiff, Nat.reduceLT, Nat.reduceLeDiff, Nat.reduceMul, Int.reduceNeg, Int.reduceToNat, Int.reduceEq, Int.reduceLT, Int.reduceLE, reduceCtorEq, Tryz.f180, hs]
  refine ends_for (words s).length (by unfold words; omega) (fun i (x : List Str) => mkSt [(3, .own 0), (8, .own 1), (9, .int .i64 (words s).length), (10, .int .i64 i)] [.slo 1 (x.map .str), .slo 3 ((words s).map Wrd.pv)]) (fun i x => x = ((words s).take i).map fun w => stem w.text) 0 [] (by omega) rfl ?_ ?_
  · rintro i x hi hI hw ih
    obtain ⟨y, hy, hg, hd⟩ := drop_get hi default
    have hyt := hwt y (List.mem_of_getElem? hy)
    have hxl : x.length = i := by rw [hI]; simp; omega
    have hwb : i + 1 ≤ 1099511627776 := by unfold words at hi; omega
    have h1 : (i + 1) * 16 ≤ 140737488355328 := by omega
    simp only [go_sem, ↓reduceIte, Nat.reduceAdd, Nat.reduceSub, Nat.reduceEqDiff, Nat.reduceLT, Nat.reduceLeDiff, Nat.reduceMul, Int.reduceNeg, Int.reduceToNat, Int.reduceEq, Int.reduceLT, Int.reduceLE, reduceCtorEq, hi, hw, hg, hy, hyt, hxl, h1]
    refine ih _ ?_
    rw [hI, List.take_add_one, hy]; simp
  · rintro x hI
    rw [List.take_length] at hI
    simp only [go_sem, ↓reduceIte, Nat.reduceAdd, Nat.reduceSub, Nat.reduceEqDiff, Nat.reduceLT, Nat.reduceLeDiff, Nat.reduceMul, Int.reduceNeg, Int.reduceToNat, Int.reduceEq, Int.reduceLT, Int.reduceLE, reduceCtorEq]
    rw [hI]; rfl
@[go_sem] theorem specTerms_R (s : Str) (hs : s.length ≤ 1099511627776) : R S0 221 [.str s] = some ⟨[none], .slo 1 ((terms s).map .str)⟩ := by
  have hwl := (words_len s 0).1
  have hwt : ∀ w ∈ words s, w.text.length ≤ 1099511627776 := fun w hw => Nat.le_trans (words_text s 0 w hw) hs
  refine go221 rfl ?_; simp only [go_sem, ↓reduceIte, Nat.reduceAdd, Nat.reduceSub, Nat.reduceEqDiff, Nat.reduceLT, Nat.reduceLeDiff, Nat.reduceMul, Int.reduceNeg, Int.reduceToNat, Int.reduceEq, Int.reduceLT, Int.reduceLE, reduceCtorEq, Tryz.f221, hs]
  refine ends_for (words s).length (by unfold words; omega) (fun i (x : List Str) => mkSt [(3, .own 0), (4, .own 1), (5, .int .i64 i)] [.slo 1 (x.map .str), .slo 3 ((words s).map Wrd.pv)]) (fun i x => x = ((words s).take i).map fun w => stem w.text) 0 [] (by omega) rfl ?_ ?_
  · rintro i x hi hI hw ih
    obtain ⟨y, hy, hg, hd⟩ := drop_get hi default
    have hyt := hwt y (List.mem_of_getElem? hy)
    have hxl : x.length = i := by rw [hI]; simp; omega
    have hwb : i + 1 ≤ 1099511627776 := by unfold words at hi; omega
    have h1 : (i + 1) * 16 ≤ 140737488355328 := by omega
    simp only [go_sem, ↓reduceIte, Nat.reduceAdd, Nat.reduceSub, Nat.reduceEqDiff, Nat.reduceLT, Nat.reduceLeDiff, Nat.reduceMul, Int.reduceNeg, Int.reduceToNat, Int.reduceEq, Int.reduceLT, Int.reduceLE, reduceCtorEq, hi, hw, hg, hy, hyt, hxl, h1]
    refine ih _ ?_
    rw [hI, List.take_add_one, hy]; simp
  · rintro x hI
    rw [List.take_length] at hI
    simp only [go_sem, ↓reduceIte, Nat.reduceAdd, Nat.reduceSub, Nat.reduceEqDiff, Nat.reduceLT, Nat.reduceLeDiff, Nat.reduceMul, Int.reduceNeg, Int.reduceToNat, Int.reduceEq, Int.reduceLT, Int.reduceLE, reduceCtorEq]
    rw [hI]; rfl
def addS : List Str → Str → List Str
  | [], t => [t]
  | x :: l, t => if Go.Op.bytesLess x t = true then x :: addS l t else if x = t then x :: l else t :: x :: l
@[go_sem] theorem l2Add_R (l : List Str) (t : Str) (hl : l.length ≤ 1099511627776) : R S0 240 [.slo 1 (l.map .str), .str t] = some ⟨[none, none], .slo 1 ((addS l t).map .str)⟩ := by
  have h1 : ∀ i, i ≤ l.length → i * 16 ≤ 140737488355328 := fun i hi => by omega
  refine go240 rfl ?_; simp only [go_sem, ↓reduceIte, Nat.reduceAdd, Nat.reduceSub, Nat.reduceEqDiff, Nat.reduceLT, Nat.reduceLeDiff, Nat.reduceMul, Int.reduceNeg, Int.reduceToNat, Int.reduceEq, Int.reduceLT, Int.reduceLE, reduceCtorEq, Tryz.f240]
  refine ends_for l.length (by omega) (fun i _ => mkSt [(0, .own 0), (1, .str t), (5, .int .i64 i)] [.slo 1 (l.map .str)]) (fun i _ => addS l t = l.take i ++ addS (l.drop i) t) 0 () (by omega) (by simp) ?_ ?_
  · rintro i _ hi hI hw ih
    obtain ⟨y, hy, hg, hd⟩ := drop_get hi default
    have htk : l.take (i + 1) = l.take i ++ [y] := by rw [List.take_add_one, hy]; rfl
    have hlen : (l.take i).length = i := by simp; omega
    have c2 : (l.drop i).take (l.length - i) = l.drop i := List.take_of_length_le (by simp)
    have hdl : (l.drop i).length = l.length - i := List.length_drop
    have hil : i ≤ l.length := by omega
    have b1 : i * 16 ≤ 140737488355328 := by omega
    have b2 : (i + 1) * 16 ≤ 140737488355328 := by omega
    have b3 : (i + 1 + (l.length - i)) * 16 ≤ 140737488355328 := by omega
    rw [hd, addS] at hI
    cases hb : Go.Op.bytesLess y t with
    | true =>
      rw [hb, if_pos rfl] at hI
      simp only [go_sem, ↓reduceIte, Nat.reduceAdd, Nat.reduceSub, Nat.reduceEqDiff, Nat.reduceLT, Nat.reduceLeDiff, Nat.reduceMul, Int.reduceNeg, Int.reduceToNat, Int.reduceEq, Int.reduceLT, Int.reduceLE, reduceCtorEq, hi, hw, hg, hy, hb]
      exact ih () (by rw [hI, htk]; simp)
    | false =>
      rw [hb, if_neg (by simp)] at hI
      by_cases he : y = t
      · rw [if_pos he] at hI
        subst he
        simp only [go_sem, ↓reduceIte, Nat.reduceAdd, Nat.reduceSub, Nat.reduceEqDiff, Nat.reduceLT, Nat.reduceLeDiff, Nat.reduceMul, Int.reduceNeg, Int.reduceToNat, Int.reduceEq, Int.reduceLT, Int.reduceLE, reduceCtorEq, hi, hw, hg, hy, hb]
        rw [hI, ← hd, List.take_append_drop]
      · rw [if_neg he] at hI
        simp only [go_sem, ↓reduceIte, Nat.reduceAdd, Nat.reduceSub, Nat.reduceEqDiff, Nat.reduceLT, Nat.reduceLeDiff, Nat.reduceMul, Int.reduceNeg, Int.reduceToNat, Int.reduceEq, Int.reduceLT, Int.reduceLE, reduceCtorEq, hi, hw, hg, hy, hb, he, c2, hlen, hdl, hil, b1, b2, b3]
        exact ⟨by decide +kernel, by rw [hI, ← hd]⟩
  · rintro _ hI
    have c1 : l.take l.length = l := List.take_length
    have c2 : (l.drop l.length).take (l.length - l.length) = [] := by simp
    have b1 : l.length * 16 ≤ 140737488355328 := by omega
    have b2 : (l.length + 1) * 16 ≤ 140737488355328 := by omega
    rw [List.take_length, List.drop_length, addS] at hI
    simp only [go_sem, ↓reduceIte, Nat.reduceAdd, Nat.reduceSub, Nat.reduceEqDiff, Nat.reduceLT, Nat.reduceLeDiff, Nat.reduceMul, Int.reduceNeg, Int.reduceToNat, Int.reduceEq, Int.reduceLT, Int.reduceLE, reduceCtorEq, c1, c2, b1, b2]
    exact ⟨by decide +kernel, by rw [hI]⟩
mutual
def termsI : Query → List Str → List Str | .mk k _ t _ _ p, out => if k = 2 ∨ k = 3 then out ++ (terms t).filter (· ≠ []) else if k = 7 ∨ k = 8 then termsIL p out else out
def termsIL : List Query → List Str → List Str
  | [], out => out
  | q :: l, out => termsIL l (termsI q out)
end
theorem words_len2 (s : Str) : (terms s).length ≤ s.length := by
  rw [terms, List.length_map]
  exact (words_len s 0).1
def tnz (s : Str) : List Str := (terms s).filter (· ≠ [])
mutual
def termsS : Query → List Str → List Str | .mk k _ t _ _ p, out => if k = 9 then out else termsSL p (if k = 2 ∨ k = 3 then (tnz t).foldl addS out else out)
def termsSL : List Query → List Str → List Str
  | [], out => out
  | q :: l, out => termsSL l (termsS q out)
end
theorem addS_len (l : List Str) (t : Str) : (addS l t).length ≤ l.length + 1 := by
  induction l with
  | nil => simp [addS]
  | cons x l ih =>
    simp only [addS]
    split
    · simp; omega
    · split <;> simp
end Go.Proofs.YtmanllfmgghadaaGreatDoor.PVE
namespace Go.Proofs.YtmanllfmgghadaaGreatDoor.PVE
open PV Query
theorem nameOk_len {s : Str} (h : nameOk s = true) : s.length ≤ 8 := by
  simp only [nameOk, inB, Bool.and_eq_true, decide_eq_true_eq] at h
  omega
end Go.Proofs.YtmanllfmgghadaaGreatDoor.PVE
