/- FnQuery: draws; the law. -/
import Derived.Test.YtmanllfmgghadaaGreatDoorT89
set_option linter.unusedVariables false
set_option linter.unusedSimpArgs false
set_option maxRecDepth 100000
namespace Go.Proofs.YtmanllfmgghadaaGreatDoor.PVE
open PV Query
theorem sdQ_R (q : Query) : q.Sm → R S0 48 [.agg [.int .i64 q.kind, .str q.field, .str q.text, .int .i64 q.low, .int .i64 q.high, .sl (q.parts.map pv)], .agg [.int .i64 q.kind, .str q.field, .str q.text, .int .i64 q.low, .int .i64 q.high, .sl (q.parts.map pv)]] = some ⟨[none, none], .bool true⟩ := by
  refine Query.ind (P := fun q => q.Sm → R S0 48 [.agg [.int .i64 q.kind, .str q.field, .str q.text, .int .i64 q.low, .int .i64 q.high, .sl (q.parts.map pv)], .agg [.int .i64 q.kind, .str q.field, .str q.text, .int .i64 q.low, .int .i64 q.high, .sl (q.parts.map pv)]] = some ⟨[none, none], .bool true⟩) (fun q ih hq => ?_) q
  obtain ⟨_, hf, ht, hp, hs⟩ := hq
  refine go48 rfl ?_; simp only [go_sem, ↓reduceIte, Nat.reduceAdd, Nat.reduceSub, Nat.reduceEqDiff, Nat.reduceLT, Nat.reduceLeDiff, Nat.reduceMul, Int.reduceNeg, Int.reduceToNat, Int.reduceEq, Int.reduceLT, Int.reduceLE, reduceCtorEq, Tryz.f48]
  refine ends_for q.parts.length (by omega) (fun i _ => mkSt [(2, .addr 0 0 0), (3, .addr 1 0 0), (5, .int .i64 i)] [.pto [.int .i64 q.kind, .str q.field, .str q.text, .int .i64 q.low, .int .i64 q.high, .sl (q.parts.map pv)], .pto [.int .i64 q.kind, .str q.field, .str q.text, .int .i64 q.low, .int .i64 q.high, .sl (q.parts.map pv)]]) (fun i _ => True) 0 () (by omega) trivial ?_ ?_
  · rintro i _ hi - hw ihl
    obtain ⟨x, hx, hg, hd⟩ := drop_get hi default
    have hxm := List.mem_of_getElem? hx
    have ihx := ih x hxm (hs x hxm)
    simp only [go_sem, ↓reduceIte, Nat.reduceAdd, Nat.reduceSub, Nat.reduceEqDiff, Nat.reduceLT, Nat.reduceLeDiff, Nat.reduceMul, Int.reduceNeg, Int.reduceToNat, Int.reduceEq, Int.reduceLT, Int.reduceLE, reduceCtorEq, hi, hw, hg, ihx]
    exact ihl () trivial
  · rintro _ -
    simp only [go_sem, ↓reduceIte, Nat.reduceAdd, Nat.reduceSub, Nat.reduceEqDiff, Nat.reduceLT, Nat.reduceLeDiff, Nat.reduceMul, Int.reduceNeg, Int.reduceToNat, Int.reduceEq, Int.reduceLT, Int.reduceLE, reduceCtorEq]
def QDPost (r : Ans) : Prop := ∃ q : Query, r = ⟨[none], .agg [.int .i64 q.kind, .str q.field, .str q.text, .int .i64 q.low, .int .i64 q.high, .slo 6 (q.parts.map pvo)]⟩ ∧ q.Sm
theorem drawPut_ex (b : Str) : ∃ r, R S0 43 [.sl (b.map bytePV)] = some r ∧ QDPost r := by
  have hb : (b.take 2000).length ≤ 2000 := by simp; omega
  obtain ⟨r2, hr2, hh⟩ := any_ex [] (b.take 2000) 0 (by omega) hb
  obtain ⟨q, p2, rfl, h3, h4, hq⟩ := hh.get
  simp only [List.map_nil] at hr2
  rw [show ((0 : Nat) : Int) = 0 from rfl] at hr2
  refine (fun ⟨r, h, hp⟩ => ⟨r, go43 rfl h, hp⟩ : (∃ r, Ends S0 _ _ r ∧ _) → _) ?_
  simp only [go_sem, ↓reduceIte, Nat.reduceAdd, Nat.reduceSub, Nat.reduceEqDiff, Nat.reduceLT, Nat.reduceLeDiff, Nat.reduceMul, Int.reduceNeg, Int.reduceToNat, Int.reduceEq, Int.reduceLT, Int.reduceLE, reduceCtorEq, Tryz.f43, hr2, hb, ex_if, ex_bool, ex_and, ex_eq]
  exact ⟨q, rfl, hq⟩
def CtPost (b : Str) (r : Ans) : Prop := ∃ t : Str, ∃ p : Nat, r = ⟨[some (.pto [.sl (b.map bytePV), .int .i64 (p : Nat)]), none], .str t⟩ ∧ t.length ≤ 1000000
theorem cut_ex (b : Str) (p : Nat) (s : Str) (hp : p ≤ 1000000000) (hb : b.length ≤ 2000) (hs : s.length ≤ 100000) : ∃ r, R S0 109 [.pto [.sl (b.map bytePV), .int .i64 p], .str s] = some r ∧ CtPost b r := by
  have hm := more (p := p) (by omega)
  have h1 : IntKind.i64.wrap ((s.length : Int) + 1) = ((s.length + 1 : Nat) : Int) := by rw [wrap_in (by omega) (by omega)]; omega
  have hk := pickV_in (b := b) (p := p) (n := ((s.length + 1 : Nat) : Int)) (by omega) hb
  have hk2 := hk.2 (by omega)
  obtain ⟨k, hkk⟩ : ∃ k : Nat, pickV b p ((s.length + 1 : Nat) : Int) = k := ⟨(pickV b p ((s.length + 1 : Nat) : Int)).toNat, by omega⟩
  have hks : k ≤ s.length := by omega
  have p1 := pick_R b p ((s.length + 1 : Nat) : Int) (by omega) hb
  rw [hkk] at p1
  have c1 : cut s 0 (k : Int) = s.take k := cut_take s k
  have c2 : cut s (k : Int) s.length = s.drop k := cut_drop s k
  have hO := of_R b (p + 1 + 1) [.str [32], .str [58], .str [10], .str [48], .str [120], .str [61], .str [45], .str [41]] rfl (by decide) (by omega) hb
  have hol := ofV_len (b := b) (p := p + 1 + 1) (l := strsOf [.str [32], .str [58], .str [10], .str [48], .str [120], .str [61], .str [45], .str [41]]) (by omega) hb (by decide) (by decide)
  have hol2 := ofV_mem (b := b) (p := p + 1 + 1) (l := strsOf [.str [32], .str [58], .str [10], .str [48], .str [120], .str [61], .str [45], .str [41]]) (by omega) hb (by decide)
  generalize ofV b (p + 1 + 1) (strsOf [.str [32], .str [58], .str [10], .str [48], .str [120], .str [61], .str [45], .str [41]]) = O at *
  have hO1 : O.length ≤ 10 := by
    simp only [strsOf_cons, strsOf_nil, List.mem_cons, List.not_mem_nil, or_false] at hol2
    rcases hol2 with rfl | rfl | rfl | rfl | rfl | rfl | rfl | rfl <;> decide
  have htk : (s.take k).length = k := by rw [List.length_take]; omega
  refine (fun ⟨r, h, hp⟩ => ⟨r, go109 rfl h, hp⟩ : (∃ r, Ends S0 _ _ r ∧ _) → _) ?_
  simp only [go_sem, ↓reduceIte, Nat.reduceAdd, Nat.reduceSub, Nat.reduceEqDiff, Nat.reduceLT, Nat.reduceLeDiff, Nat.reduceMul, Int.reduceNeg, Int.reduceToNat, Int.reduceEq, Int.reduceLT, Int.reduceLE, reduceCtorEq, Tryz.f109, p1, hm, hb, h1, c1, c2, hO, hks, htk, List.length_append, List.length_drop, ex_if, ex_bool, ex_and, ex_eq]
  refine ⟨fun _ => ⟨by omega, by omega, by decide +kernel, ⟨_, _, rfl, ?_⟩⟩, fun _ => ⟨fun _ => ⟨_, _, rfl, by omega⟩, fun _ => ⟨_, _, rfl, by omega⟩⟩⟩
  rw [List.length_append, List.length_append, List.length_drop, htk]
  omega
def TxPost (r : Ans) : Prop := ∃ t : Str, r = ⟨[none], .str t⟩ ∧ t.length ≤ 1000000
theorem drawGet_ex (b : Str) : ∃ r, R S0 49 [.sl (b.map bytePV)] = some r ∧ TxPost r := by
  have hb : (b.take 2000).length ≤ 2000 := by simp; omega
  have p0 := pick_R (b.take 2000) 0 5 (by omega) hb
  rw [show ((0 : Nat) : Int) = 0 from rfl, show ((0 + 1 : Nat) : Int) = 1 from rfl] at p0
  have hO := of_R (b.take 2000) 1 [.str [], .str [42], .str [114, 101, 100, 42], .str [116, 105, 116, 108, 101, 58, 114, 101, 100], .str [40, 114, 101, 100, 32, 124, 32, 98, 108, 117, 101, 41], .str [40, 114, 101, 100, 41], .str [45], .str [34, 114, 101, 100], .str [64, 112, 114, 105, 99, 101, 58, 49, 46, 46], .str [64, 99, 111, 108, 111, 114, 58, 123, 125], .str [40, 97, 32, 98], .str [114, 101, 100, 32, 98, 108, 117, 101]] rfl (by decide) (by omega) hb
  rw [show ((1 : Nat) : Int) = 1 from rfl] at hO
  have hol := ofV_mem (b := b.take 2000) (p := 1) (l := strsOf [.str [], .str [42], .str [114, 101, 100, 42], .str [116, 105, 116, 108, 101, 58, 114, 101, 100], .str [40, 114, 101, 100, 32, 124, 32, 98, 108, 117, 101, 41], .str [40, 114, 101, 100, 41], .str [45], .str [34, 114, 101, 100], .str [64, 112, 114, 105, 99, 101, 58, 49, 46, 46], .str [64, 99, 111, 108, 111, 114, 58, 123, 125], .str [40, 97, 32, 98], .str [114, 101, 100, 32, 98, 108, 117, 101]]) (by omega) hb (by decide)
  generalize ofV (b.take 2000) 1 (strsOf [.str [], .str [42], .str [114, 101, 100, 42], .str [116, 105, 116, 108, 101, 58, 114, 101, 100], .str [40, 114, 101, 100, 32, 124, 32, 98, 108, 117, 101, 41], .str [40, 114, 101, 100, 41], .str [45], .str [34, 114, 101, 100], .str [64, 112, 114, 105, 99, 101, 58, 49, 46, 46], .str [64, 99, 111, 108, 111, 114, 58, 123, 125], .str [40, 97, 32, 98], .str [114, 101, 100, 32, 98, 108, 117, 101]]) = O at *
  have hO1 : O.length ≤ 100 := by
    simp only [strsOf_cons, strsOf_nil, List.mem_cons, List.not_mem_nil, or_false] at hol
    rcases hol with rfl | rfl | rfl | rfl | rfl | rfl | rfl | rfl | rfl | rfl | rfl | rfl <;> decide
  obtain ⟨r2, hr2, hh⟩ := query_ex [] 3 (b.take 2000) 1 (by omega) hb (by omega)
  obtain ⟨q, p2, rfl, h3, h4, hq⟩ := hh.get
  simp only [List.map_nil] at hr2
  rw [show ((1 : Nat) : Int) = 1 from rfl, show ((3 : Nat) : Int) = 3 from rfl] at hr2
  have hpl := putA_len q
  obtain ⟨r3, hr3, t, p3, rfl, ht⟩ := cut_ex (b.take 2000) p2 (putA q) (by omega) hb hpl
  refine (fun ⟨r, h, hp⟩ => ⟨r, go49 rfl h, hp⟩ : (∃ r, Ends S0 _ _ r ∧ _) → _) ?_
  simp only [go_sem, ↓reduceIte, Nat.reduceAdd, Nat.reduceSub, Nat.reduceEqDiff, Nat.reduceLT, Nat.reduceLeDiff, Nat.reduceMul, Int.reduceNeg, Int.reduceToNat, Int.reduceEq, Int.reduceLT, Int.reduceLE, reduceCtorEq, Tryz.f49, p0, hO, hr2, hq, hr3, hb, ex_if, ex_bool, ex_and, ex_eq]
  exact ⟨fun _ => ⟨_, rfl, by omega⟩, fun _ => ⟨_, rfl, ht⟩⟩
@[go_sem] theorem FnQuery_R (b c : Str) (hb : b.length ≤ 9223372036854775807) (hc : c.length ≤ 9223372036854775807) : R S0 9 [.sl (b.map bytePV), .sl (c.map bytePV)] = some ⟨[none, none], .bool true⟩ := by
  by_cases h1 : 1048576 < (b.length : Int)
  · refine go9 rfl ?_; simp only [go_sem, ↓reduceIte, Nat.reduceAdd, Nat.reduceSub, Nat.reduceEqDiff, Nat.reduceLT, Nat.reduceLeDiff, Nat.reduceMul, Int.reduceNeg, Int.reduceToNat, Int.reduceEq, Int.reduceLT, Int.reduceLE, reduceCtorEq, Tryz.f9, h1]
  by_cases h2 : 1048576 < (c.length : Int)
  · refine go9 rfl ?_; simp only [go_sem, ↓reduceIte, Nat.reduceAdd, Nat.reduceSub, Nat.reduceEqDiff, Nat.reduceLT, Nat.reduceLeDiff, Nat.reduceMul, Int.reduceNeg, Int.reduceToNat, Int.reduceEq, Int.reduceLT, Int.reduceLE, reduceCtorEq, Tryz.f9, h1, h2]
  obtain ⟨r, hr, q, rfl, hq⟩ := drawPut_ex b
  obtain ⟨r', hr', t, rfl, ht⟩ := drawGet_ex c
  have htb : t.length ≤ 1099511627776 := by omega
  have hpl := putA_len q
  have a1 := implQueryGet_R (putA q) (by omega)
  have a2 := implQueryGet_R t htb
  have a3 := specQueryGet_R t htb
  have s1 := getQ_sm t
  have d1 := sdQ_R (getQ t).1 s1
  have bk := getQ_back (t := t)
  have hlA : (putA q).length ≤ 1099511627776 := by omega
  cases hok : okQ 4 q with
  | false =>
    have e : putA q = [] := by rw [putA, hok, if_neg (by simp)]
    have e2 : getQ [] = (zeroQ, false) := getQ_no (by rintro ⟨_, q0, o1, o2⟩; exact put_ne o1 o2)
    rw [e] at a1
    rw [e2] at a1
    cases hf : (getQ t).2 with
    | true =>
      obtain ⟨b1, b2, b3⟩ := bk hf
      rw [hf] at a2 a3
      refine go9 rfl ?_; simp only [go_sem, ↓reduceIte, Nat.reduceAdd, Nat.reduceSub, Nat.reduceEqDiff, Nat.reduceLT, Nat.reduceLeDiff, Nat.reduceMul, Int.reduceNeg, Int.reduceToNat, Int.reduceEq, Int.reduceLT, Int.reduceLE, reduceCtorEq, Tryz.f9, h1, h2, hr, hr', hq, hok, e, a1, a2, a3, s1, d1, b3]
    | false =>
      rw [hf] at a2 a3
      refine go9 rfl ?_; simp only [go_sem, ↓reduceIte, Nat.reduceAdd, Nat.reduceSub, Nat.reduceEqDiff, Nat.reduceLT, Nat.reduceLeDiff, Nat.reduceMul, Int.reduceNeg, Int.reduceToNat, Int.reduceEq, Int.reduceLT, Int.reduceLE, reduceCtorEq, Tryz.f9, h1, h2, hr, hr', hq, hok, e, a1, a2, a3, s1, d1]
  | true =>
    have e : putA q = putQ q := by rw [putA, hok, if_pos rfl]
    have hne : ¬ putQ q = [] := put_ne hok
    have dq := sdQ_R q hq
    rw [e] at a1
    by_cases hl : (putQ q).length ≤ 200
    · have hl' : ((putQ q).length : Int) ≤ 200 := by omega
      rw [getQ_put hok hl] at a1
      cases hf : (getQ t).2 with
      | true =>
        obtain ⟨b1, b2, b3⟩ := bk hf
        rw [hf] at a2 a3
        refine go9 rfl ?_; simp only [go_sem, ↓reduceIte, Nat.reduceAdd, Nat.reduceSub, Nat.reduceEqDiff, Nat.reduceLT, Nat.reduceLeDiff, Nat.reduceMul, Int.reduceNeg, Int.reduceToNat, Int.reduceEq, Int.reduceLT, Int.reduceLE, reduceCtorEq, Tryz.f9, h1, h2, hr, hr', hq, hok, e, hne, hl, hl', a1, a2, a3, s1, d1, dq, b3]
      | false =>
        rw [hf] at a2 a3
        refine go9 rfl ?_; simp only [go_sem, ↓reduceIte, Nat.reduceAdd, Nat.reduceSub, Nat.reduceEqDiff, Nat.reduceLT, Nat.reduceLeDiff, Nat.reduceMul, Int.reduceNeg, Int.reduceToNat, Int.reduceEq, Int.reduceLT, Int.reduceLE, reduceCtorEq, Tryz.f9, h1, h2, hr, hr', hq, hok, e, hne, hl, hl', a1, a2, a3, s1, d1, dq]
    · have hl' : ¬ ((putQ q).length : Int) ≤ 200 := by omega
      rw [getQ_no (by rintro ⟨h, _⟩; exact hl h)] at a1
      cases hf : (getQ t).2 with
      | true =>
        obtain ⟨b1, b2, b3⟩ := bk hf
        rw [hf] at a2 a3
        refine go9 rfl ?_; simp only [go_sem, ↓reduceIte, Nat.reduceAdd, Nat.reduceSub, Nat.reduceEqDiff, Nat.reduceLT, Nat.reduceLeDiff, Nat.reduceMul, Int.reduceNeg, Int.reduceToNat, Int.reduceEq, Int.reduceLT, Int.reduceLE, reduceCtorEq, Tryz.f9, h1, h2, hr, hr', hq, hok, e, hne, hl, hl', a1, a2, a3, s1, d1, dq, b3]
      | false =>
        rw [hf] at a2 a3
        refine go9 rfl ?_; simp only [go_sem, ↓reduceIte, Nat.reduceAdd, Nat.reduceSub, Nat.reduceEqDiff, Nat.reduceLT, Nat.reduceLeDiff, Nat.reduceMul, Int.reduceNeg, Int.reduceToNat, Int.reduceEq, Int.reduceLT, Int.reduceLE, reduceCtorEq, Tryz.f9, h1, h2, hr, hr', hq, hok, e, hne, hl, hl', a1, a2, a3, s1, d1, dq]
end Go.Proofs.YtmanllfmgghadaaGreatDoor.PVE
