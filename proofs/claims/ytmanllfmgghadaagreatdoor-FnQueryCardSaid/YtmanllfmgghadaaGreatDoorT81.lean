/- A question is put: both sides. -/
import Derived.Test.YtmanllfmgghadaaGreatDoorT80
set_option linter.unusedVariables false
set_option linter.unusedSimpArgs false
set_option maxRecDepth 100000
namespace Go.Proofs.YtmanllfmgghadaaGreatDoor.PVE
open PV Query
theorem digC_conv {u : Nat} (h : u < 10) : IntKind.u8.wrap (IntKind.i64.wrap (48 + (u : Int))) = ((digC u).toNat : Int) := by
  rw [wrap_in (by omega) (by omega), IntKind.wrap_u8, digC_nat h]; omega
theorem toB (b : UInt8) : (PV.int .u8 (b.toNat : Int)).toByte = b := by have h := bytes_back [b]; simpa [bytePV] using h
theorem isB (b : UInt8) : (PV.int .u8 (b.toNat : Int)).isByte = true := by have h := (bytes_are [b]).mpr trivial; simpa [bytePV] using h
theorem l1Dec_nat (u : Nat) (hu : u ≤ 9223372036854775807) : R S0 158 [.int .i64 u] = some ⟨[none], .str (Lib.decDigits u)⟩ := by
  induction u using Nat.strongRecOn with
  | _ u ih =>
    have h1 : ¬ (u : Int) < -9223372036854775807 := by omega
    have h2 : ¬ (u : Int) < 0 := by omega
    by_cases h : u < 10
    · have h3 : (u : Int) < 10 := by omega
      refine go158 rfl ?_; simp only [go_sem, ↓reduceIte, Nat.reduceAdd, Nat.reduceSub, Nat.reduceEqDiff, Nat.reduceLT, Nat.reduceLeDiff, Nat.reduceMul, Int.reduceNeg, Int.reduceToNat, Int.reduceEq, Int.reduceLT, Int.reduceLE, reduceCtorEq, Tryz.f158, h1, h2, h3, digC_conv h, decD_small h, toB, isB]
    · have h3 : ¬ (u : Int) < 10 := by omega
      have hr := ih (u / 10) (by omega) (by omega)
      have e1 : ((u : Nat) : Int).tdiv 10 = ((u / 10 : Nat) : Int) := (Int.ofNat_tdiv u 10).symm
      have e2 : ((u : Nat) : Int).tmod 10 = ((u % 10 : Nat) : Int) := (Int.ofNat_tmod u 10).symm
      have e3 : IntKind.i64.wrap ((u / 10 : Nat) : Int) = ((u / 10 : Nat) : Int) := wrap_in (by omega) (by omega)
      have e4 := digC_conv (show u % 10 < 10 by omega)
      have hl := decD_len 18 (u / 10) (by omega)
      refine go158 rfl ?_; simp only [go_sem, ↓reduceIte, Nat.reduceAdd, Nat.reduceSub, Nat.reduceEqDiff, Nat.reduceLT, Nat.reduceLeDiff, Nat.reduceMul, Int.reduceNeg, Int.reduceToNat, Int.reduceEq, Int.reduceLT, Int.reduceLE, reduceCtorEq, Tryz.f158, h1, h2, h3, e1, e2, e3, hr, e4, decD_big h, toB, isB]
      exact ⟨by omega, by decide +kernel⟩
@[go_sem] theorem l1Dec_R (n : Int) (h0 : -9223372036854775807 ≤ n) (h9 : n ≤ 9223372036854775807) : R S0 158 [.int .i64 n] = some ⟨[none], .str (Lib.itoa n)⟩ := by
  by_cases hn : n < 0
  · obtain ⟨u, rfl⟩ : ∃ u : Nat, n = -(u : Int) := ⟨n.natAbs, by omega⟩
    have h1 : ¬ -(u : Int) < -9223372036854775807 := by omega
    have hr := l1Dec_nat u (by omega)
    have e1 : IntKind.i64.wrap (0 - -(u : Int)) = (u : Int) := by rw [wrap_in (by omega) (by omega)]; omega
    have hl := decD_len 18 u (by omega)
    have e2 : Lib.itoa (-(u : Int)) = 45 :: Lib.decDigits u := by rw [Lib.itoa, if_pos hn]; congr 2; omega
    rw [e2]
    refine go158 rfl ?_; simp only [go_sem, ↓reduceIte, Nat.reduceAdd, Nat.reduceSub, Nat.reduceEqDiff, Nat.reduceLT, Nat.reduceLeDiff, Nat.reduceMul, Int.reduceNeg, Int.reduceToNat, Int.reduceEq, Int.reduceLT, Int.reduceLE, reduceCtorEq, Tryz.f158, h1, hn, e1, hr]
    omega
  · obtain ⟨u, rfl⟩ : ∃ u : Nat, n = (u : Int) := ⟨n.toNat, by omega⟩
    rw [l1Dec_nat u (by omega), Lib.itoa, if_neg hn, Int.toNat_natCast]
@[go_sem] theorem l5Head_R (f : Str) (hf : f.length ≤ 1099511627776) : R S0 157 [.str f] = some ⟨[none], .str (if f = [] then [] else f ++ [58])⟩ := by
  by_cases h : f = []
  · refine go157 rfl ?_; simp only [go_sem, ↓reduceIte, Nat.reduceAdd, Nat.reduceSub, Nat.reduceEqDiff, Nat.reduceLT, Nat.reduceLeDiff, Nat.reduceMul, Int.reduceNeg, Int.reduceToNat, Int.reduceEq, Int.reduceLT, Int.reduceLE, reduceCtorEq, Tryz.f157, h]
  · refine go157 rfl ?_; simp only [go_sem, ↓reduceIte, Nat.reduceAdd, Nat.reduceSub, Nat.reduceEqDiff, Nat.reduceLT, Nat.reduceLeDiff, Nat.reduceMul, Int.reduceNeg, Int.reduceToNat, Int.reduceEq, Int.reduceLT, Int.reduceLE, reduceCtorEq, Tryz.f157, h]
    omega
@[go_sem] theorem itoa_R (n : Int) (h0 : -9223372036854775808 ≤ n) (h1 : n ≤ 9223372036854775807) : R S0 165 [.int .i64 n] = some ⟨[none], .str (Lib.itoa n)⟩ := by
  refine R_lib (Eq.trans (b := libItoa [.int .i64 n]) (by kernel_rfl) ?_)
  rw [libItoa, if_pos ⟨h0, h1⟩]
@[go_sem] theorem join_R (l : List Str) (sep : Str) (hl : l.length ≤ 1099511627776) (h : (Lib.join l sep).length ≤ 140737488355328) : R S0 166 [.sl (l.map .str), .str sep] = some ⟨[none, none], .str (Lib.join l sep)⟩ := by
  refine R_lib (Eq.trans (b := libJoin [.sl (l.map .str), .str sep]) (by kernel_rfl) ?_)
  rw [libJoin, strsOf_map, strsAll_map, if_pos ⟨rfl, by simpa using hl, h⟩]
def putB : Nat → Nat
  | 0 => 0
  | d + 1 => 200 + 4 * (putB d + 3)
theorem putQ_len (d : Nat) : ∀ q : Query, okQ d q = true → (putQ q).length ≤ putB d := by
  induction d with
  | zero => intro q h; cases h
  | succ d ih =>
    intro q h
    simp only [okQ, Bool.and_eq_true, List.all_eq_true] at h
    obtain ⟨h1, h2, h3⟩ := nodeOk_len h.1
    have hp : ∀ s ∈ q.parts.map putQ, s.length ≤ putB d := fun s hs => by
      obtain ⟨p, hp, rfl⟩ := List.mem_map.1 hs
      exact ih p (h.2 p hp)
    have j1 := join_len [32] _ _ hp
    have j2 := join_len [32, 124, 32] _ _ hp
    rw [List.length_map] at j1 j2
    replace j1 : (Lib.join (q.parts.map putQ) [32]).length ≤ q.parts.length * (putB d + 1) := j1
    replace j2 : (Lib.join (q.parts.map putQ) [32, 124, 32]).length ≤ q.parts.length * (putB d + 3) := j2
    have m1 : q.parts.length * (putB d + 1) ≤ 4 * (putB d + 3) := Nat.mul_le_mul h3 (by omega)
    have m2 : q.parts.length * (putB d + 3) ≤ 4 * (putB d + 3) := Nat.mul_le_mul h3 (by omega)
    have h0 : ((q.parts.map putQ).headD []).length ≤ putB d := by
      cases hq : q.parts.map putQ with
      | nil => simp
      | cons x l => rw [hq] at hp; exact hp x (by simp)
    have hf : (if q.field = [] then ([] : Str) else q.field ++ [58]).length ≤ 9 := by
      split
      · simp
      · simp; omega
    rw [putQ_eq, putB]
    have hn : q.kind = 5 → (Lib.itoa q.low).length ≤ 21 ∧ (Lib.itoa q.high).length ≤ 21 := by
      intro k5
      have hpe : q.parts = [] := nodeOk_leaf h.1 (by omega)
      have h5 := h.1
      unfold nodeOk leafOk at h5
      rw [if_pos hpe] at h5
      simp only [k5, inB, Bool.and_eq_true, decide_eq_true_eq, show ¬ (5 : Int) = 1 by decide, show ¬ (5 : Int) = 2 by decide, show ¬ (5 : Int) = 3 by decide, show ¬ (5 : Int) = 4 by decide, if_false, if_true] at h5
      exact ⟨Lib.itoa_length_le _ (by omega) (by omega), Lib.itoa_length_le _ (by omega) (by omega)⟩
    simp only [putN]
    split
    · simp; omega
    split
    · simp only [List.length_append]; omega
    split
    · simp only [List.length_append, List.length_cons, List.length_nil]; omega
    split
    · simp only [List.length_append, List.length_cons, List.length_nil]; omega
    split
    · rename_i k5
      have := hn k5
      simp only [List.length_append, List.length_cons, List.length_nil]; omega
    split
    · simp only [List.length_append, List.length_cons, List.length_nil]; omega
    split
    · simp only [List.length_append, List.length_cons, List.length_nil]; omega
    split
    · simp only [List.length_append, List.length_cons, List.length_nil]; omega
    · simp only [List.length_cons]; omega
theorem hdF_len {f : Str} (h : f.length ≤ 8) : (hdF f).length ≤ 9 := by
  rw [hdF]; split
  · simp
  · simp; omega
theorem putN_le {d : Nat} {q : Query} (h : okQ d q = true) (hd : d ≤ 4) : (putQ q).length ≤ 100000 := by
  have h1 := putQ_len d q h
  have h2 : putB d ≤ putB 4 := by
    rcases Nat.lt_or_ge d 4 with h | h
    · have : d = 0 ∨ d = 1 ∨ d = 2 ∨ d = 3 := by omega
      rcases this with rfl | rfl | rfl | rfl <;> decide
    · obtain rfl : d = 4 := by omega
      exact Nat.le_refl _
  have h3 : putB 4 = 18020 := by decide
  omega
theorem implPut_R (d : Nat) : d ≤ 4 → ∀ (q : Query), q.Sm → okQ d q = true → R S0 104 [.agg [.int .i64 q.kind, .str q.field, .str q.text, .int .i64 q.low, .int .i64 q.high, .sl (q.parts.map pv)]] = some ⟨[none], .str (putQ q)⟩ := by
  induction d with
  | zero => intro _ q _ h; cases h
  | succ d ih =>
    intro hd4 q hq hok
    have hfull := putN_le hok hd4
    obtain ⟨e, he, hn, hps⟩ := okQ_node hok
    obtain rfl : d = e := by omega
    obtain ⟨_, hf, ht, hp, hs⟩ := id hq
    obtain ⟨n1, n2, n3⟩ := nodeOk_len hn
    have hstep : ∀ i x, q.parts[i]? = some x → (q.parts.take (i + 1)).map putQ = (q.parts.take i).map putQ ++ [putQ x] := fun i x hx => by rw [List.take_add_one, hx]; simp
    have hput := putQ_eq q
    rw [hput] at hfull ⊢
    have hfield : (if q.field = [] then ([] : Str) else q.field ++ [58]).length ≤ 1099511627776 := by
      split
      · simp
      · simp; omega
    have hz0 : q.kind = 9 → ((q.parts.map putQ)[0]? = some ((q.parts.map putQ).headD []) ∧ (q.parts.map putQ).getD 0 default = (q.parts.map putQ).headD [] ∧ 0 < (q.parts.map putQ).length) := fun k9 => by
      obtain ⟨p, hp9⟩ := nodeOk_nine hn k9
      rw [hp9]; exact ⟨rfl, rfl, Nat.one_pos⟩
    have hz0l : ((q.parts.map putQ).headD []).length ≤ 100000 := by
      cases hpp : q.parts with
      | nil => simp
      | cons x l =>
        have hx : x ∈ q.parts := by rw [hpp]; simp
        simpa using putN_le (hps x hx) (by omega)
    have h5 : q.kind = 5 → ((-999999999 ≤ q.low ∧ q.low ≤ 999999999) ∧ (-999999999 ≤ q.high ∧ q.high ≤ 999999999)) ∧ (Lib.itoa q.low).length ≤ 21 ∧ (Lib.itoa q.high).length ≤ 21 := fun k5 => by
      rcases put_cases hok with rfl | ⟨f, t, rfl, h1, h2⟩ | ⟨f, t, rfl, h1, h2⟩ | ⟨f, t, rfl, h1, h2⟩ | ⟨f, lo, hi, rfl, h1, h2, h3⟩ | ⟨f, t, rfl, h1, h2⟩ | ⟨p, ps, rfl, h1, h2, h3, h4⟩ | ⟨p, ps, rfl, h1, h2, h3, h4⟩ | ⟨p, rfl, h1⟩
      case inr.inr.inr.inr.inl =>
        exact ⟨⟨h2, h3⟩, Lib.itoa_length_le _ (by show -9223372036854775808 ≤ lo; omega) (by show lo ≤ _; omega), Lib.itoa_length_le _ (by show -9223372036854775808 ≤ hi; omega) (by show hi ≤ _; omega)⟩
      all_goals exact absurd k5 (by simp only [Query.kind_mk]; decide)
    have hk9 : 1 ≤ q.kind ∧ q.kind ≤ 9 := by
      rcases put_cases hok with rfl | ⟨f, t, rfl, h1, h2⟩ | ⟨f, t, rfl, h1, h2⟩ | ⟨f, t, rfl, h1, h2⟩ | ⟨f, lo, hi, rfl, h1, h2, h3⟩ | ⟨f, t, rfl, h1, h2⟩ | ⟨p, ps, rfl, h1, h2, h3, h4⟩ | ⟨p, ps, rfl, h1, h2, h3, h4⟩ | ⟨p, rfl, h1⟩
      all_goals (simp only [Query.kind_mk]; decide)
    have hjn : q.parts.map putQ = q.parts.map putQ := rfl
    have hj7 : (Lib.join (q.parts.map putQ) [32]).length ≤ 1000000 ∧ (Lib.join (q.parts.map putQ) [32, 124, 32]).length ≤ 1000000 := by
      have hpb : ∀ s ∈ q.parts.map putQ, s.length ≤ 100000 := fun s hs => by
        obtain ⟨x, hx, rfl⟩ := List.mem_map.1 hs
        exact putN_le (hps x hx) (by omega)
      have j1 := join_len [32] _ _ hpb
      have j2 := join_len [32, 124, 32] _ _ hpb
      rw [List.length_map] at j1 j2
      simp only [List.length_cons, List.length_nil] at j1 j2
      have := Nat.mul_le_mul_right (100000 + (0 + 1)) n3
      have := Nat.mul_le_mul_right (100000 + (0 + 1 + 1 + 1)) n3
      omega
    obtain ⟨hj7, hj8⟩ := hj7
    have hj7' : (Lib.join (q.parts.map putQ) [32]).length ≤ 140737488355328 := by omega
    have hj8' : (Lib.join (q.parts.map putQ) [32, 124, 32]).length ≤ 140737488355328 := by omega
    have hjl : ((q.parts.map putQ).length) ≤ 1099511627776 := by rw [List.length_map]; omega
    by_cases hf0 : q.field = []
    · refine go104 rfl ?_; simp only [go_sem, ↓reduceIte, Nat.reduceAdd, Nat.reduceSub, Nat.reduceEqDiff, Nat.reduceLT, Nat.reduceLeDiff, Nat.reduceMul, Int.reduceNeg, Int.reduceToNat, Int.reduceEq, Int.reduceLT, Int.reduceLE, reduceCtorEq, Tryz.f104, hf0]
      refine ends_for q.parts.length (by omega) (fun i _ => mkSt [(1, .addr 0 0 0), (3, .str []), (4, .own 1), (15, .sl (q.parts.map pv)), (16, .int .i64 q.parts.length), (17, .int .i64 i)] [.pto [.int .i64 q.kind, .str [], .str q.text, .int .i64 q.low, .int .i64 q.high, .sl (q.parts.map pv)], .slo 1 (((q.parts.take i).map putQ).map .str)]) (fun _ _ => True) 0 () (by omega) trivial ?_ ?_
      · rintro i _ hi - hw ihl
        obtain ⟨x, hx, hg, _⟩ := drop_get hi default
        have hxm := List.mem_of_getElem? hx
        have hP := ih (by omega) x (hs x hxm) (hps x hxm)
        have ih' := ihl () trivial
        rw [hstep i x hx] at ih'
        have hlen : (q.parts.take i).length ≤ 4 := by rw [List.length_take]; omega
        simp only [go_sem, ↓reduceIte, Nat.reduceAdd, Nat.reduceSub, Nat.reduceEqDiff, Nat.reduceLT, Nat.reduceLeDiff, Nat.reduceMul, Int.reduceNeg, Int.reduceToNat, Int.reduceEq, Int.reduceLT, Int.reduceLE, reduceCtorEq, hi, hw, hg, hx, hP]
        exact ⟨by omega, ih'⟩
      · rintro _ -
        rw [List.take_length]
        by_cases k1 : q.kind = 1
        · simp only [go_sem, ↓reduceIte, Nat.reduceAdd, Nat.reduceSub, Nat.reduceEqDiff, Nat.reduceLT, Nat.reduceLeDiff, Nat.reduceMul, Int.reduceNeg, Int.reduceToNat, Int.reduceEq, Int.reduceLT, Int.reduceLE, reduceCtorEq, k1, putN]
        by_cases k2 : q.kind = 2
        · simp only [go_sem, ↓reduceIte, Nat.reduceAdd, Nat.reduceSub, Nat.reduceEqDiff, Nat.reduceLT, Nat.reduceLeDiff, Nat.reduceMul, Int.reduceNeg, Int.reduceToNat, Int.reduceEq, Int.reduceLT, Int.reduceLE, reduceCtorEq, k1, eq_true k2, putN, hf0, List.length_append, List.length_cons, List.length_nil]
          repeat' (first | omega | decide +kernel | apply And.intro)
        by_cases k3 : q.kind = 3
        · simp only [go_sem, ↓reduceIte, Nat.reduceAdd, Nat.reduceSub, Nat.reduceEqDiff, Nat.reduceLT, Nat.reduceLeDiff, Nat.reduceMul, Int.reduceNeg, Int.reduceToNat, Int.reduceEq, Int.reduceLT, Int.reduceLE, reduceCtorEq, k1, k2, eq_true k3, putN, hf0, List.length_append, List.length_cons, List.length_nil]
          repeat' (first | omega | decide +kernel | apply And.intro)
        by_cases k4 : q.kind = 4
        · simp only [go_sem, ↓reduceIte, Nat.reduceAdd, Nat.reduceSub, Nat.reduceEqDiff, Nat.reduceLT, Nat.reduceLeDiff, Nat.reduceMul, Int.reduceNeg, Int.reduceToNat, Int.reduceEq, Int.reduceLT, Int.reduceLE, reduceCtorEq, k1, k2, k3, eq_true k4, putN, hf0, List.length_append, List.length_cons, List.length_nil]
          repeat' (first | omega | decide +kernel | apply And.intro)
        by_cases k5 : q.kind = 5
        · obtain ⟨⟨⟨b1, b2⟩, b3, b4⟩, b5, b6⟩ := h5 k5
          have b1' : -9223372036854775808 ≤ q.low := by omega
          have b2' : q.low ≤ 9223372036854775807 := by omega
          have b3' : -9223372036854775808 ≤ q.high := by omega
          have b4' : q.high ≤ 9223372036854775807 := by omega
          simp only [go_sem, ↓reduceIte, Nat.reduceAdd, Nat.reduceSub, Nat.reduceEqDiff, Nat.reduceLT, Nat.reduceLeDiff, Nat.reduceMul, Int.reduceNeg, Int.reduceToNat, Int.reduceEq, Int.reduceLT, Int.reduceLE, reduceCtorEq, k1, k2, k3, k4, eq_true k5, putN, hf0, b1', b2', b3', b4', List.length_append, List.length_cons, List.length_nil]
          repeat' (first | omega | decide +kernel | apply And.intro)
        by_cases k6 : q.kind = 6
        · simp only [go_sem, ↓reduceIte, Nat.reduceAdd, Nat.reduceSub, Nat.reduceEqDiff, Nat.reduceLT, Nat.reduceLeDiff, Nat.reduceMul, Int.reduceNeg, Int.reduceToNat, Int.reduceEq, Int.reduceLT, Int.reduceLE, reduceCtorEq, k1, k2, k3, k4, k5, eq_true k6, putN, hf0, List.length_append, List.length_cons, List.length_nil]
          repeat' (first | omega | decide +kernel | apply And.intro)
        by_cases k7 : q.kind = 7
        · simp only [go_sem, ↓reduceIte, Nat.reduceAdd, Nat.reduceSub, Nat.reduceEqDiff, Nat.reduceLT, Nat.reduceLeDiff, Nat.reduceMul, Int.reduceNeg, Int.reduceToNat, Int.reduceEq, Int.reduceLT, Int.reduceLE, reduceCtorEq, k1, k2, k3, k4, k5, k6, eq_true k7, putN, hf0, hp, hjl, hj7', hj8', List.length_append, List.length_cons, List.length_nil]
          repeat' (first | omega | decide +kernel | apply And.intro)
        by_cases k8 : q.kind = 8
        · simp only [go_sem, ↓reduceIte, Nat.reduceAdd, Nat.reduceSub, Nat.reduceEqDiff, Nat.reduceLT, Nat.reduceLeDiff, Nat.reduceMul, Int.reduceNeg, Int.reduceToNat, Int.reduceEq, Int.reduceLT, Int.reduceLE, reduceCtorEq, k1, k2, k3, k4, k5, k6, k7, eq_true k8, putN, hf0, hp, hjl, hj7', hj8', List.length_append, List.length_cons, List.length_nil]
          repeat' (first | omega | decide +kernel | apply And.intro)
        have k9 : q.kind = 9 := by omega
        obtain ⟨z1, z2, z3⟩ := hz0 k9
        have z4 : 0 < q.parts.length := by rw [List.length_map] at z3; exact z3
        simp only [go_sem, ↓reduceIte, Nat.reduceAdd, Nat.reduceSub, Nat.reduceEqDiff, Nat.reduceLT, Nat.reduceLeDiff, Nat.reduceMul, Int.reduceNeg, Int.reduceToNat, Int.reduceEq, Int.reduceLT, Int.reduceLE, reduceCtorEq, k1, k2, k3, k4, k5, k6, k7, k8, putN, hf0, z1, z2, z3, z4, List.length_append, List.length_cons, List.length_nil]
        repeat' (first | omega | decide +kernel | apply And.intro)
    · refine go104 rfl ?_; simp only [go_sem, ↓reduceIte, Nat.reduceAdd, Nat.reduceSub, Nat.reduceEqDiff, Nat.reduceLT, Nat.reduceLeDiff, Nat.reduceMul, Int.reduceNeg, Int.reduceToNat, Int.reduceEq, Int.reduceLT, Int.reduceLE, reduceCtorEq, Tryz.f104, hf0]
      refine ⟨by omega, ?_⟩
      refine ends_for q.parts.length (by omega) (fun i _ => mkSt [(1, .addr 0 0 0), (3, .str (q.field ++ [58])), (4, .own 1), (15, .sl (q.parts.map pv)), (16, .int .i64 q.parts.length), (17, .int .i64 i)] [.pto [.int .i64 q.kind, .str q.field, .str q.text, .int .i64 q.low, .int .i64 q.high, .sl (q.parts.map pv)], .slo 1 (((q.parts.take i).map putQ).map .str)]) (fun _ _ => True) 0 () (by omega) trivial ?_ ?_
      · rintro i _ hi - hw ihl
        obtain ⟨x, hx, hg, _⟩ := drop_get hi default
        have hxm := List.mem_of_getElem? hx
        have hP := ih (by omega) x (hs x hxm) (hps x hxm)
        have ih' := ihl () trivial
        rw [hstep i x hx] at ih'
        have hlen : (q.parts.take i).length ≤ 4 := by rw [List.length_take]; omega
        simp only [go_sem, ↓reduceIte, Nat.reduceAdd, Nat.reduceSub, Nat.reduceEqDiff, Nat.reduceLT, Nat.reduceLeDiff, Nat.reduceMul, Int.reduceNeg, Int.reduceToNat, Int.reduceEq, Int.reduceLT, Int.reduceLE, reduceCtorEq, hi, hw, hg, hx, hP]
        exact ⟨by omega, ih'⟩
      · rintro _ -
        rw [List.take_length]
        by_cases k1 : q.kind = 1
        · simp only [go_sem, ↓reduceIte, Nat.reduceAdd, Nat.reduceSub, Nat.reduceEqDiff, Nat.reduceLT, Nat.reduceLeDiff, Nat.reduceMul, Int.reduceNeg, Int.reduceToNat, Int.reduceEq, Int.reduceLT, Int.reduceLE, reduceCtorEq, k1, putN]
        by_cases k2 : q.kind = 2
        · simp only [go_sem, ↓reduceIte, Nat.reduceAdd, Nat.reduceSub, Nat.reduceEqDiff, Nat.reduceLT, Nat.reduceLeDiff, Nat.reduceMul, Int.reduceNeg, Int.reduceToNat, Int.reduceEq, Int.reduceLT, Int.reduceLE, reduceCtorEq, k1, eq_true k2, putN, hf0, List.length_append, List.length_cons, List.length_nil]
          repeat' (first | omega | decide +kernel | apply And.intro)
        by_cases k3 : q.kind = 3
        · simp only [go_sem, ↓reduceIte, Nat.reduceAdd, Nat.reduceSub, Nat.reduceEqDiff, Nat.reduceLT, Nat.reduceLeDiff, Nat.reduceMul, Int.reduceNeg, Int.reduceToNat, Int.reduceEq, Int.reduceLT, Int.reduceLE, reduceCtorEq, k1, k2, eq_true k3, putN, hf0, List.length_append, List.length_cons, List.length_nil]
          repeat' (first | omega | decide +kernel | apply And.intro)
        by_cases k4 : q.kind = 4
        · simp only [go_sem, ↓reduceIte, Nat.reduceAdd, Nat.reduceSub, Nat.reduceEqDiff, Nat.reduceLT, Nat.reduceLeDiff, Nat.reduceMul, Int.reduceNeg, Int.reduceToNat, Int.reduceEq, Int.reduceLT, Int.reduceLE, reduceCtorEq, k1, k2, k3, eq_true k4, putN, hf0, List.length_append, List.length_cons, List.length_nil]
          repeat' (first | omega | decide +kernel | apply And.intro)
        by_cases k5 : q.kind = 5
        · obtain ⟨⟨⟨b1, b2⟩, b3, b4⟩, b5, b6⟩ := h5 k5
          have b1' : -9223372036854775808 ≤ q.low := by omega
          have b2' : q.low ≤ 9223372036854775807 := by omega
          have b3' : -9223372036854775808 ≤ q.high := by omega
          have b4' : q.high ≤ 9223372036854775807 := by omega
          simp only [go_sem, ↓reduceIte, Nat.reduceAdd, Nat.reduceSub, Nat.reduceEqDiff, Nat.reduceLT, Nat.reduceLeDiff, Nat.reduceMul, Int.reduceNeg, Int.reduceToNat, Int.reduceEq, Int.reduceLT, Int.reduceLE, reduceCtorEq, k1, k2, k3, k4, eq_true k5, putN, hf0, b1', b2', b3', b4', List.length_append, List.length_cons, List.length_nil]
          repeat' (first | omega | decide +kernel | apply And.intro)
        by_cases k6 : q.kind = 6
        · simp only [go_sem, ↓reduceIte, Nat.reduceAdd, Nat.reduceSub, Nat.reduceEqDiff, Nat.reduceLT, Nat.reduceLeDiff, Nat.reduceMul, Int.reduceNeg, Int.reduceToNat, Int.reduceEq, Int.reduceLT, Int.reduceLE, reduceCtorEq, k1, k2, k3, k4, k5, eq_true k6, putN, hf0, List.length_append, List.length_cons, List.length_nil]
          repeat' (first | omega | decide +kernel | apply And.intro)
        by_cases k7 : q.kind = 7
        · simp only [go_sem, ↓reduceIte, Nat.reduceAdd, Nat.reduceSub, Nat.reduceEqDiff, Nat.reduceLT, Nat.reduceLeDiff, Nat.reduceMul, Int.reduceNeg, Int.reduceToNat, Int.reduceEq, Int.reduceLT, Int.reduceLE, reduceCtorEq, k1, k2, k3, k4, k5, k6, eq_true k7, putN, hf0, hp, hjl, hj7', hj8', List.length_append, List.length_cons, List.length_nil]
          repeat' (first | omega | decide +kernel | apply And.intro)
        by_cases k8 : q.kind = 8
        · simp only [go_sem, ↓reduceIte, Nat.reduceAdd, Nat.reduceSub, Nat.reduceEqDiff, Nat.reduceLT, Nat.reduceLeDiff, Nat.reduceMul, Int.reduceNeg, Int.reduceToNat, Int.reduceEq, Int.reduceLT, Int.reduceLE, reduceCtorEq, k1, k2, k3, k4, k5, k6, k7, eq_true k8, putN, hf0, hp, hjl, hj7', hj8', List.length_append, List.length_cons, List.length_nil]
          repeat' (first | omega | decide +kernel | apply And.intro)
        have k9 : q.kind = 9 := by omega
        obtain ⟨z1, z2, z3⟩ := hz0 k9
        have z4 : 0 < q.parts.length := by rw [List.length_map] at z3; exact z3
        simp only [go_sem, ↓reduceIte, Nat.reduceAdd, Nat.reduceSub, Nat.reduceEqDiff, Nat.reduceLT, Nat.reduceLeDiff, Nat.reduceMul, Int.reduceNeg, Int.reduceToNat, Int.reduceEq, Int.reduceLT, Int.reduceLE, reduceCtorEq, k1, k2, k3, k4, k5, k6, k7, k8, putN, hf0, z1, z2, z3, z4, List.length_append, List.length_cons, List.length_nil]
        repeat' (first | omega | decide +kernel | apply And.intro)
theorem okQ_sm : ∀ (d : Nat) {q : Query}, okQ d q = true → q.Sm
  | 0, q, h => by cases h
  | d + 1, q, h => by
    obtain ⟨e, he, hn, hps⟩ := okQ_node h
    obtain rfl : d = e := by omega
    obtain ⟨n1, n2, n3⟩ := nodeOk_len hn
    exact ⟨_, by omega, by omega, by omega, fun p hp => okQ_sm d (hps p hp)⟩
def outT (sg : Str) (l : List Query) : Str := 40 :: Lib.join (l.map putQ) sg
theorem outT_snoc (sg : Str) (l : List Query) (x : Query) : outT sg (l ++ [x]) = outT sg l ++ ((if l = [] then [] else sg) ++ putQ x) := by
  rw [outT, List.map_append, List.map_cons, List.map_nil, join_snoc, outT, List.cons_append]
  congr 3
  cases l <;> simp
theorem outT_len {sg : Str} {l : List Query} (h : ∀ x ∈ l, (putQ x).length ≤ 100000) (hl : l.length ≤ 4) (hs : sg.length ≤ 3) : (outT sg l).length ≤ 500000 := by
  have hpb : ∀ s ∈ l.map putQ, s.length ≤ 100000 := fun s hs => by
    obtain ⟨x, hx, rfl⟩ := List.mem_map.1 hs
    exact h x hx
  have j := join_len sg _ _ hpb
  rw [List.length_map] at j
  have m := Nat.mul_le_mul hl (show 100000 + sg.length ≤ 100003 by omega)
  rw [outT, List.length_cons]
  omega
theorem specPut_R (d : Nat) : d ≤ 4 → ∀ (q : Query), q.Sm → okQ d q = true → R S0 98 [.agg [.int .i64 q.kind, .str q.field, .str q.text, .int .i64 q.low, .int .i64 q.high, .sl (q.parts.map pv)]] = some ⟨[none], .str (putQ q)⟩ := by
  induction d with
  | zero => intro _ q _ h; cases h
  | succ d ih =>
    intro hd4 q hq hok
    have hfull := putN_le hok hd4
    obtain ⟨e, he, hn, hps⟩ := okQ_node hok
    obtain rfl : d = e := by omega
    obtain ⟨_, hf, ht, hp, hs⟩ := id hq
    obtain ⟨n1, n2, n3⟩ := nodeOk_len hn
    have hHl := hdF_len n1
    rcases put_cases hok with rfl | ⟨f, t, rfl, h1, h2⟩ | ⟨f, t, rfl, h1, h2⟩ | ⟨f, t, rfl, h1, h2⟩ | ⟨f, lo, hi, rfl, h1, h2, h3⟩ | ⟨f, t, rfl, h1, h2⟩ | ⟨p, ps, rfl, h1, h2, h3, h4⟩ | ⟨p, ps, rfl, h1, h2, h3, h4⟩ | ⟨p, rfl, h1⟩
    all_goals simp only [Query.kind_mk, Query.field_mk, Query.text_mk, Query.low_mk, Query.high_mk, Query.parts_mk] at n1 n2 n3 hHl hf ht hp hs ⊢
    · rw [put1]
      refine go98 rfl ?_; simp only [go_sem, ↓reduceIte, Nat.reduceAdd, Nat.reduceSub, Nat.reduceEqDiff, Nat.reduceLT, Nat.reduceLeDiff, Nat.reduceMul, Int.reduceNeg, Int.reduceToNat, Int.reduceEq, Int.reduceLT, Int.reduceLE, reduceCtorEq, Tryz.f98]
    · rw [put2]
      have hH := l5Head_R f hf
      rw [← hdF] at hH
      refine go98 rfl ?_; simp only [go_sem, ↓reduceIte, Nat.reduceAdd, Nat.reduceSub, Nat.reduceEqDiff, Nat.reduceLT, Nat.reduceLeDiff, Nat.reduceMul, Int.reduceNeg, Int.reduceToNat, Int.reduceEq, Int.reduceLT, Int.reduceLE, reduceCtorEq, Tryz.f98, hH]
      repeat' (first | omega | decide +kernel | apply And.intro)
    · rw [put3]
      have hH := l5Head_R f hf
      rw [← hdF] at hH
      refine go98 rfl ?_; simp only [go_sem, ↓reduceIte, Nat.reduceAdd, Nat.reduceSub, Nat.reduceEqDiff, Nat.reduceLT, Nat.reduceLeDiff, Nat.reduceMul, Int.reduceNeg, Int.reduceToNat, Int.reduceEq, Int.reduceLT, Int.reduceLE, reduceCtorEq, Tryz.f98, hH, List.length_append, List.length_cons, List.length_nil]
      repeat' (first | omega | decide +kernel | apply And.intro)
    · rw [put4]
      have hH := l5Head_R f hf
      rw [← hdF] at hH
      refine go98 rfl ?_; simp only [go_sem, ↓reduceIte, Nat.reduceAdd, Nat.reduceSub, Nat.reduceEqDiff, Nat.reduceLT, Nat.reduceLeDiff, Nat.reduceMul, Int.reduceNeg, Int.reduceToNat, Int.reduceEq, Int.reduceLT, Int.reduceLE, reduceCtorEq, Tryz.f98, hH, List.length_append, List.length_cons, List.length_nil]
      repeat' (first | omega | decide +kernel | apply And.intro)
    · rw [put5 _ _ _ (name_word h1).2.1]
      have b1 := l1Dec_R lo (by omega) (by omega)
      have b2 := l1Dec_R hi (by omega) (by omega)
      have b5 := Lib.itoa_length_le lo (by omega) (by omega)
      have b6 := Lib.itoa_length_le hi (by omega) (by omega)
      refine go98 rfl ?_; simp only [go_sem, ↓reduceIte, Nat.reduceAdd, Nat.reduceSub, Nat.reduceEqDiff, Nat.reduceLT, Nat.reduceLeDiff, Nat.reduceMul, Int.reduceNeg, Int.reduceToNat, Int.reduceEq, Int.reduceLT, Int.reduceLE, reduceCtorEq, Tryz.f98, b1, b2, List.length_append, List.length_cons, List.length_nil]
      repeat' (first | omega | decide +kernel | apply And.intro)
    · rw [put6 _ _ (name_word h1).2.1]
      refine go98 rfl ?_; simp only [go_sem, ↓reduceIte, Nat.reduceAdd, Nat.reduceSub, Nat.reduceEqDiff, Nat.reduceLT, Nat.reduceLeDiff, Nat.reduceMul, Int.reduceNeg, Int.reduceToNat, Int.reduceEq, Int.reduceLT, Int.reduceLE, reduceCtorEq, Tryz.f98, List.length_append, List.length_cons, List.length_nil]
      repeat' (first | omega | decide +kernel | apply And.intro)
    · have hpb : ∀ x ∈ p :: ps, (putQ x).length ≤ 100000 := fun x hx => by
        rcases List.mem_cons.1 hx with rfl | hx
        · exact putN_le h3 (by omega)
        · exact putN_le (h4 x hx) (by omega)
      have hok' : ∀ x ∈ p :: ps, okQ d x = true := fun x hx => by
        rcases List.mem_cons.1 hx with rfl | hx
        · exact h3
        · exact h4 x hx
      clear hps hok hn hfull h1 h2 h3 h4 hq
      generalize p :: ps = L at *
      have hfin : putQ (.mk 7 [] [] 0 0 L) = outT [32] L ++ [41] := by
        rw [putQ_eq]
        show putN 7 [] [] 0 0 (L.map putQ) = _
        simp [putN, outT]
      rw [hfin]
      refine go98 rfl ?_; simp only [go_sem, ↓reduceIte, Nat.reduceAdd, Nat.reduceSub, Nat.reduceEqDiff, Nat.reduceLT, Nat.reduceLeDiff, Nat.reduceMul, Int.reduceNeg, Int.reduceToNat, Int.reduceEq, Int.reduceLT, Int.reduceLE, reduceCtorEq, Tryz.f98]
      refine ends_for L.length (by omega) (fun i _ => mkSt [(1, .addr 0 0 0), (3, .str [32]), (4, .str (outT [32] (L.take i))), (5, .int .i64 i)] [.pto [.int .i64 7, .str [], .str [], .int .i64 0, .int .i64 0, .sl (L.map pv)]]) (fun _ _ => True) 0 () (by omega) trivial ?_ ?_
      · rintro i _ hi - hw ihl
        obtain ⟨x, hx, hg, _⟩ := drop_get hi default
        have hxm := List.mem_of_getElem? hx
        have hP := ih (by omega) x (hs x hxm) (hok' x hxm)
        have ih' := ihl () trivial
        have hpl := hpb x hxm
        have hol := outT_len (sg := [32]) (l := L.take i) (fun x hx => hpb x (List.mem_of_mem_take hx)) (by rw [List.length_take]; omega) (by decide)
        have htk : L.take (i + 1) = L.take i ++ [x] := by rw [List.take_add_one, hx]; rfl
        rw [htk, outT_snoc] at ih'
        by_cases h0 : 0 < i
        · have hne : ¬ L.take i = [] := by
            intro he
            have := congrArg List.length he
            rw [List.length_take] at this
            simp only [List.length_nil] at this; omega
          have h0' : (0 : Int) < i := by omega
          rw [if_neg hne] at ih'
          simp only [go_sem, ↓reduceIte, Nat.reduceAdd, Nat.reduceSub, Nat.reduceEqDiff, Nat.reduceLT, Nat.reduceLeDiff, Nat.reduceMul, Int.reduceNeg, Int.reduceToNat, Int.reduceEq, Int.reduceLT, Int.reduceLE, reduceCtorEq, hi, hw, hg, hx, hP, h0, h0', List.length_append, List.length_cons, List.length_nil]
          exact ⟨by omega, by omega, ih'⟩
        · have he : L.take i = [] := by rw [show i = 0 by omega]; rfl
          have h0' : ¬ (0 : Int) < i := by omega
          rw [if_pos he, List.nil_append] at ih'
          simp only [go_sem, ↓reduceIte, Nat.reduceAdd, Nat.reduceSub, Nat.reduceEqDiff, Nat.reduceLT, Nat.reduceLeDiff, Nat.reduceMul, Int.reduceNeg, Int.reduceToNat, Int.reduceEq, Int.reduceLT, Int.reduceLE, reduceCtorEq, hi, hw, hg, hx, hP, h0, h0', List.length_append, List.length_cons, List.length_nil]
          first | exact ih' | exact ⟨by omega, ih'⟩
      · rintro _ -
        rw [List.take_length]
        have hol := outT_len (sg := [32]) (l := L) hpb (by omega) (by decide)
        simp only [go_sem, ↓reduceIte, Nat.reduceAdd, Nat.reduceSub, Nat.reduceEqDiff, Nat.reduceLT, Nat.reduceLeDiff, Nat.reduceMul, Int.reduceNeg, Int.reduceToNat, Int.reduceEq, Int.reduceLT, Int.reduceLE, reduceCtorEq, List.length_append, List.length_cons, List.length_nil]
        omega
    · have hpb : ∀ x ∈ p :: ps, (putQ x).length ≤ 100000 := fun x hx => by
        rcases List.mem_cons.1 hx with rfl | hx
        · exact putN_le h3 (by omega)
        · exact putN_le (h4 x hx) (by omega)
      have hok' : ∀ x ∈ p :: ps, okQ d x = true := fun x hx => by
        rcases List.mem_cons.1 hx with rfl | hx
        · exact h3
        · exact h4 x hx
      clear hps hok hn hfull h1 h2 h3 h4 hq
      generalize p :: ps = L at *
      have hfin : putQ (.mk 8 [] [] 0 0 L) = outT [32, 124, 32] L ++ [41] := by
        rw [putQ_eq]
        show putN 8 [] [] 0 0 (L.map putQ) = _
        simp [putN, outT]
      rw [hfin]
      refine go98 rfl ?_; simp only [go_sem, ↓reduceIte, Nat.reduceAdd, Nat.reduceSub, Nat.reduceEqDiff, Nat.reduceLT, Nat.reduceLeDiff, Nat.reduceMul, Int.reduceNeg, Int.reduceToNat, Int.reduceEq, Int.reduceLT, Int.reduceLE, reduceCtorEq, Tryz.f98]
      refine ends_for L.length (by omega) (fun i _ => mkSt [(1, .addr 0 0 0), (3, .str [32, 124, 32]), (4, .str (outT [32, 124, 32] (L.take i))), (5, .int .i64 i)] [.pto [.int .i64 8, .str [], .str [], .int .i64 0, .int .i64 0, .sl (L.map pv)]]) (fun _ _ => True) 0 () (by omega) trivial ?_ ?_
      · rintro i _ hi - hw ihl
        obtain ⟨x, hx, hg, _⟩ := drop_get hi default
        have hxm := List.mem_of_getElem? hx
        have hP := ih (by omega) x (hs x hxm) (hok' x hxm)
        have ih' := ihl () trivial
        have hpl := hpb x hxm
        have hol := outT_len (sg := [32, 124, 32]) (l := L.take i) (fun x hx => hpb x (List.mem_of_mem_take hx)) (by rw [List.length_take]; omega) (by decide)
        have htk : L.take (i + 1) = L.take i ++ [x] := by rw [List.take_add_one, hx]; rfl
        rw [htk, outT_snoc] at ih'
        by_cases h0 : 0 < i
        · have hne : ¬ L.take i = [] := by
            intro he
            have := congrArg List.length he
            rw [List.length_take] at this
            simp only [List.length_nil] at this; omega
          have h0' : (0 : Int) < i := by omega
          rw [if_neg hne] at ih'
          simp only [go_sem, ↓reduceIte, Nat.reduceAdd, Nat.reduceSub, Nat.reduceEqDiff, Nat.reduceLT, Nat.reduceLeDiff, Nat.reduceMul, Int.reduceNeg, Int.reduceToNat, Int.reduceEq, Int.reduceLT, Int.reduceLE, reduceCtorEq, hi, hw, hg, hx, hP, h0, h0', List.length_append, List.length_cons, List.length_nil]
          exact ⟨by omega, by omega, ih'⟩
        · have he : L.take i = [] := by rw [show i = 0 by omega]; rfl
          have h0' : ¬ (0 : Int) < i := by omega
          rw [if_pos he, List.nil_append] at ih'
          simp only [go_sem, ↓reduceIte, Nat.reduceAdd, Nat.reduceSub, Nat.reduceEqDiff, Nat.reduceLT, Nat.reduceLeDiff, Nat.reduceMul, Int.reduceNeg, Int.reduceToNat, Int.reduceEq, Int.reduceLT, Int.reduceLE, reduceCtorEq, hi, hw, hg, hx, hP, h0, h0', List.length_append, List.length_cons, List.length_nil]
          first | exact ih' | exact ⟨by omega, ih'⟩
      · rintro _ -
        rw [List.take_length]
        have hol := outT_len (sg := [32, 124, 32]) (l := L) hpb (by omega) (by decide)
        simp only [go_sem, ↓reduceIte, Nat.reduceAdd, Nat.reduceSub, Nat.reduceEqDiff, Nat.reduceLT, Nat.reduceLeDiff, Nat.reduceMul, Int.reduceNeg, Int.reduceToNat, Int.reduceEq, Int.reduceLT, Int.reduceLE, reduceCtorEq, List.length_append, List.length_cons, List.length_nil]
        omega
    · rw [put9]
      have hP := ih (by omega) p (hs p (by simp)) h1
      have := putN_le h1 (by omega)
      refine go98 rfl ?_; simp only [go_sem, ↓reduceIte, Nat.reduceAdd, Nat.reduceSub, Nat.reduceEqDiff, Nat.reduceLT, Nat.reduceLeDiff, Nat.reduceMul, Int.reduceNeg, Int.reduceToNat, Int.reduceEq, Int.reduceLT, Int.reduceLE, reduceCtorEq, Tryz.f98, hP, pv_eq]
      omega
end Go.Proofs.YtmanllfmgghadaaGreatDoor.PVE
