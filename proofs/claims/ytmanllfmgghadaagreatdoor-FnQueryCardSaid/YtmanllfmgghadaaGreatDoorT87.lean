/- The reference's reader of questions: any text; the text of a question. -/
import Derived.Test.YtmanllfmgghadaaGreatDoorT86
set_option linter.unusedVariables false
set_option linter.unusedSimpArgs false
set_option maxRecDepth 100000
namespace Go.Proofs.YtmanllfmgghadaaGreatDoor.PVE
open PV Query
def SPost (d : Nat) (s : Str) (a : Nat) (r : Ans) : Prop := ∃ q : Query, ∃ b : Nat, ∃ f : Bool, r = ⟨[some (.pto [.str s, .int .i64 (b : Nat), .bool f]), none], .agg [.int .i64 q.kind, .str q.field, .str q.text, .int .i64 q.low, .int .i64 q.high, .slo 6 (q.parts.map pvo)]⟩ ∧ a ≤ b ∧ b ≤ s.length ∧ q.Sm ∧ ∀ q0 r, okQ d q0 = true → s.drop a = putQ q0 ++ r → Dl r → q = q0 ∧ b = a + (putQ q0).length ∧ f = false
theorem spost {d : Nat} {s : Str} {a b : Nat} {f : Bool} {q : Query} (h1 : a ≤ b) (h2 : b ≤ s.length) (hq : q.Sm) (h : ∀ q0 r, okQ d q0 = true → s.drop a = putQ q0 ++ r → Dl r → q = q0 ∧ b = a + (putQ q0).length ∧ f = false) : SPost d s a ⟨[some (.pto [.str s, .int .i64 (b : Nat), .bool f]), none], .agg [.int .i64 q.kind, .str q.field, .str q.text, .int .i64 q.low, .int .i64 q.high, .slo 6 (q.parts.map pvo)]⟩ := ⟨q, b, f, rfl, h1, h2, hq, h⟩
theorem MInv.next {B d : Nat} {s : Str} {a : Nat} {K : Int} {sg : Str} {acc : List Query} {b : Nat} (h : MInv B d s a K sg acc b) (hb : begM sg (s.drop b) = true) {K' : Int} {sg' : Str} {p : Query} {ps : List Query} {r : Str} (hM : MH d s a K' sg' p ps r) : ∃ x r', okQ d x = true ∧ s.drop (b + sg.length) = putQ x ++ r' ∧ Dl r' := by
  obtain ⟨i1, i2, i3, i4, i5, i6⟩ := h
  obtain ⟨rfl, rfl, n, n1, n2, n3, n4⟩ := i6 K' sg' p ps r hM
  obtain ⟨m1, m2, m3, m4, m5, m6, m7⟩ := hM
  cases hd : ps.drop n with
  | nil =>
    exfalso
    rw [n4, hd] at hb
    rcases m1 with ⟨_, rfl⟩ | ⟨_, rfl⟩
    · rw [show tailT [32] [] ++ 41 :: r = 41 :: r from rfl, begM_cons] at hb; simp at hb
    · rw [show tailT [32, 124, 32] [] ++ 41 :: r = 41 :: r from rfl] at hb
      simp [begM] at hb
  | cons x l =>
    have hx : ps[n]? = some x := by
      have := congrArg (fun y => y[0]?) hd
      simpa using this
    rw [hd, tailT_cons, List.append_assoc, List.append_assoc] at n4
    exact ⟨x, _, m5 x (List.mem_of_getElem? hx), by rw [← List.drop_drop, n4, List.drop_left], tail_dl (by rcases m1 with ⟨_, h⟩ | ⟨_, h⟩; exact .inl h; exact .inr h) l r⟩
theorem paren_mh {d : Nat} {s : Str} {a : Nat} (c40 : begM [40] (s.drop a) = true) {q0 : Query} {r : Str} (o1 : okQ (d + 1) q0 = true) (o2 : s.drop a = putQ q0 ++ r) (o3 : Dl r) : ∃ K sg p ps, MH d s a K sg p ps r ∧ q0 = .mk K [] [] 0 0 (p :: ps) ∧ (putQ q0).length = 2 + (putQ p).length + (tailT sg ps).length := by
  rcases put_split o1 o2 o3 with ⟨c, _⟩ | ⟨c, _⟩ | ⟨_, k, sg', p, ps, hks, h0, hne, hl3, hp, hps, hd, hlen⟩ | ⟨c, _⟩ | ⟨_, _, c, _⟩
  · exact absurd (begM_two c40 c) (by decide)
  · exact absurd (begM_two c40 c) (by decide)
  · exact ⟨k, sg', p, ps, ⟨hks, hne, hl3, hp, hps, by rw [← List.drop_drop]; exact hd, o3⟩, h0, hlen⟩
  · exact absurd (begM_two c40 c) (by decide)
  · rw [c] at c40; cases c40
def SInv (d : Nat) (s : Str) (a : Nat) (K : Int) (sg : Str) (x : Nat × List Query × Bool) : Prop := MInv 1000 d s a K sg x.2.1 x.1 ∧ x.2.1.length + a ≤ x.1 ∧ ∀ K' sg' p ps r, MH d s a K' sg' p ps r → x.2.2 = false
theorem sm_or (s : Str) (hs : s.length ≤ 200) (d a : Nat) (ha : a + 1 ≤ s.length) (c40 : begM [40] (s.drop a) = true) (ih : ∀ a : Nat, a ≤ s.length → ∃ r, R S0 97 [.pto [.str s, .int .i64 a, .bool false], .int .i64 d] = some r ∧ SPost d s a r)
    {q : Query} {b : Nat} {f : Bool} (hr1 : R S0 97 [.pto [.str s, .int .i64 (a + 1 : Nat), .bool false], .int .i64 d] = some ⟨[some (.pto [.str s, .int .i64 (b : Nat), .bool f]), none], .agg [.int .i64 q.kind, .str q.field, .str q.text, .int .i64 q.low, .int .i64 q.high, .slo 6 (q.parts.map pvo)]⟩) (k1 : a + 1 ≤ b) (k2 : b ≤ s.length) (k3 : q.Sm) (k4 : ∀ q0 r, okQ d q0 = true → s.drop (a + 1) = putQ q0 ++ r → Dl r → q = q0 ∧ b = a + 1 + (putQ q0).length ∧ f = false) (hbar : begM [32, 124, 32] (s.drop b) = true) :
    ∃ r, R S0 153 [.pto [.str s, .int .i64 (a + 1 : Nat), .bool false], .int .i64 d] = some r ∧ SPost (d + 1) s a r := by
  have hs' : s.length ≤ 1000 := by omega
  have hcb : cut s (b : Int) s.length = s.drop b := cut_drop s b
  refine (fun ⟨r, h, hp⟩ => ⟨r, go153 rfl h, hp⟩ : (∃ r, Ends S0 _ _ r ∧ _) → _) ?_
  simp only [go_sem, ↓reduceIte, Nat.reduceAdd, Nat.reduceSub, Nat.reduceEqDiff, Nat.reduceLT, Nat.reduceLeDiff, Nat.reduceMul, Int.reduceNeg, Int.reduceToNat, Int.reduceEq, Int.reduceLT, Int.reduceLE, reduceCtorEq, Tryz.f153, hr1, hcb, hbar, ha, hs', k2, List.length_cons, List.length_nil, ex_if, ex_bool, ex_and, ex_eq]
  have hi : SInv d s a 8 [32, 124, 32] (b, [q], f) := by
    have := MInv.first (B := 1000) k1 k2 (by omega) k3 (fun q0 r o1 o2 o3 => ⟨(k4 q0 r o1 o2 o3).1, (k4 q0 r o1 o2 o3).2.1⟩)
    rw [hbar, if_pos rfl, if_pos rfl] at this
    refine ⟨this, by simp only [List.length_cons, List.length_nil]; omega, fun K' sg' p ps r hM => ?_⟩
    obtain ⟨m1, m2, m3, m4, m5, m6, m7⟩ := hM
    exact (k4 p _ m4 m6 (tail_dl (by rcases m1 with ⟨_, h⟩ | ⟨_, h⟩; exact .inl h; exact .inr h) ps r)).2.2
  have e1 : [PV.agg [.int .i64 q.kind, .str q.field, .str q.text, .int .i64 q.low, .int .i64 q.high, .slo 6 (q.parts.map pvo)]] = [q].map pvo := by simp [pvo_eq]
  rw [e1]
  refine ends_wx (fun x : Nat × List Query × Bool => s.length - x.1) (fun x => mkSt [(0, .addr 0 0 0), (1, .int .i64 d), (4, .addr 1 0 0), (5, .addr 2 0 0), (6, .str [32, 124, 32]), (1000000, .addr 0 0 0)] [.pto [.str s, .int .i64 (x.1 : Nat), .bool x.2.2], .pto [.int .i64 0, .str [], .str [], .int .i64 0, .int .i64 0, .slo 6 []], .pto [.int .i64 8, .str [], .str [], .int .i64 0, .int .i64 0, .slo 6 (x.2.1.map pvo)]]) (SInv d s a 8 [32, 124, 32]) (b, [q], f) hi ?_
  clear hr1 k1 k2 k3 k4 hi e1 hcb hbar
  rintro ⟨b, acc, f⟩ hI ihl
  obtain ⟨hI, hal, hfl⟩ := hI
  simp only at hI hal hfl
  obtain ⟨i1, i2, i3, i4, i5, _⟩ := id hI
  have hacc : acc.length ≤ 1099511627776 := by omega
  cases f with
  | true =>
    have hrt : ∀ q0 r, okQ (d + 1) q0 = true → s.drop a = putQ q0 ++ r → Dl r → False := fun q0 r o1 o2 o3 => by
      obtain ⟨K', sg', p, ps, hM, _⟩ := paren_mh c40 o1 o2 o3
      cases hfl _ _ _ _ _ hM
    cases c41 : begM [41] (s.drop b) with
    | true =>
      have hb41 := begM_len c41
      rw [List.length_drop] at hb41
      simp only [List.length_cons, List.length_nil] at hb41
      simp only [go_sem, ↓reduceIte, Nat.reduceAdd, Nat.reduceSub, Nat.reduceEqDiff, Nat.reduceLT, Nat.reduceLeDiff, Nat.reduceMul, Int.reduceNeg, Int.reduceToNat, Int.reduceEq, Int.reduceLT, Int.reduceLE, reduceCtorEq, c41, i2, hs', List.length_cons, List.length_nil, ex_if, ex_bool, ex_and, ex_eq]
      exact spost (q := .mk 8 [] [] 0 0 acc) (by omega) (by omega) (node_sm hacc i5) fun q0 r o1 o2 o3 => (hrt q0 r o1 o2 o3).elim
    | false =>
      simp only [go_sem, ↓reduceIte, Nat.reduceAdd, Nat.reduceSub, Nat.reduceEqDiff, Nat.reduceLT, Nat.reduceLeDiff, Nat.reduceMul, Int.reduceNeg, Int.reduceToNat, Int.reduceEq, Int.reduceLT, Int.reduceLE, reduceCtorEq, c41, i2, hs', List.length_cons, List.length_nil, ex_if, ex_bool, ex_and, ex_eq]
      exact spost (q := .mk 8 [] [] 0 0 acc) (by omega) (by omega) (node_sm hacc i5) fun q0 r o1 o2 o3 => (hrt q0 r o1 o2 o3).elim
  | false =>
    cases hsg : begM [32, 124, 32] (s.drop b) with
    | true =>
      have hle := begM_len hsg
      rw [List.length_drop] at hle
      simp only [List.length_cons, List.length_nil] at hle
      have hbn : b + 3 ≤ s.length := by omega
      obtain ⟨r2, hr2, q2, c, f2, rfl, j1, j2, j3, j4⟩ := ih (b + 3) hbn
      have h5 : (acc.length + 1) * 96 ≤ 140737488355328 := by omega
      simp only [go_sem, ↓reduceIte, Nat.reduceAdd, Nat.reduceSub, Nat.reduceEqDiff, Nat.reduceLT, Nat.reduceLeDiff, Nat.reduceMul, Int.reduceNeg, Int.reduceToNat, Int.reduceEq, Int.reduceLT, Int.reduceLE, reduceCtorEq, hsg, hr2, i2, hs', h5, List.length_cons, List.length_nil, ex_if, ex_bool, ex_and, ex_eq]
      refine ⟨by omega, by decide +kernel, ihl (c, acc ++ [q2], f2) (by simp only; omega) ⟨hI.step hsg j3 (by simpa using j1) j2 (by omega) (fun q0 r o1 o2 o3 => ⟨(j4 q0 r o1 o2 o3).1, (j4 q0 r o1 o2 o3).2.1⟩), by simp only [List.length_append, List.length_cons, List.length_nil]; omega, fun K' sg' p ps r hM => ?_⟩⟩
      obtain ⟨x, r', x1, x2, x3⟩ := hI.next hsg hM
      exact (j4 x r' x1 x2 x3).2.2
    | false =>
      cases c41 : begM [41] (s.drop b) with
      | true =>
        have hb41 := begM_len c41
        rw [List.length_drop] at hb41
        simp only [List.length_cons, List.length_nil] at hb41
        simp only [go_sem, ↓reduceIte, Nat.reduceAdd, Nat.reduceSub, Nat.reduceEqDiff, Nat.reduceLT, Nat.reduceLeDiff, Nat.reduceMul, Int.reduceNeg, Int.reduceToNat, Int.reduceEq, Int.reduceLT, Int.reduceLE, reduceCtorEq, hsg, c41, i2, hs', List.length_cons, List.length_nil, ex_if, ex_bool, ex_and, ex_eq]
        refine spost (q := .mk 8 [] [] 0 0 acc) (by omega) (by omega) (node_sm hacc i5) fun q0 r o1 o2 o3 => ?_
        obtain ⟨K', sg', p, ps, hM, rfl, hlen⟩ := paren_mh c40 o1 o2 o3
        obtain ⟨rfl, rfl, hb⟩ := hI.stop hsg hM
        have he := many_end hM i2 i1 hb
        exact ⟨rfl, by omega, rfl⟩
      | false =>
        simp only [go_sem, ↓reduceIte, Nat.reduceAdd, Nat.reduceSub, Nat.reduceEqDiff, Nat.reduceLT, Nat.reduceLeDiff, Nat.reduceMul, Int.reduceNeg, Int.reduceToNat, Int.reduceEq, Int.reduceLT, Int.reduceLE, reduceCtorEq, hsg, c41, i2, hs', List.length_cons, List.length_nil, ex_if, ex_bool, ex_and, ex_eq]
        refine spost (q := .mk 8 [] [] 0 0 acc) (by omega) (by omega) (node_sm hacc i5) fun q0 r o1 o2 o3 => ?_
        obtain ⟨K', sg', p, ps, hM, rfl, hlen⟩ := paren_mh c40 o1 o2 o3
        obtain ⟨_, _, hb⟩ := hI.stop hsg hM
        rw [hb, begM_yes] at c41
        cases c41
theorem sm_and (s : Str) (hs : s.length ≤ 200) (d a : Nat) (ha : a + 1 ≤ s.length) (c40 : begM [40] (s.drop a) = true) (ih : ∀ a : Nat, a ≤ s.length → ∃ r, R S0 97 [.pto [.str s, .int .i64 a, .bool false], .int .i64 d] = some r ∧ SPost d s a r)
    {q : Query} {b : Nat} {f : Bool} (hr1 : R S0 97 [.pto [.str s, .int .i64 (a + 1 : Nat), .bool false], .int .i64 d] = some ⟨[some (.pto [.str s, .int .i64 (b : Nat), .bool f]), none], .agg [.int .i64 q.kind, .str q.field, .str q.text, .int .i64 q.low, .int .i64 q.high, .slo 6 (q.parts.map pvo)]⟩) (k1 : a + 1 ≤ b) (k2 : b ≤ s.length) (k3 : q.Sm) (k4 : ∀ q0 r, okQ d q0 = true → s.drop (a + 1) = putQ q0 ++ r → Dl r → q = q0 ∧ b = a + 1 + (putQ q0).length ∧ f = false) (hbar : begM [32, 124, 32] (s.drop b) = false) :
    ∃ r, R S0 153 [.pto [.str s, .int .i64 (a + 1 : Nat), .bool false], .int .i64 d] = some r ∧ SPost (d + 1) s a r := by
  have hs' : s.length ≤ 1000 := by omega
  have hcb : cut s (b : Int) s.length = s.drop b := cut_drop s b
  refine (fun ⟨r, h, hp⟩ => ⟨r, go153 rfl h, hp⟩ : (∃ r, Ends S0 _ _ r ∧ _) → _) ?_
  simp only [go_sem, ↓reduceIte, Nat.reduceAdd, Nat.reduceSub, Nat.reduceEqDiff, Nat.reduceLT, Nat.reduceLeDiff, Nat.reduceMul, Int.reduceNeg, Int.reduceToNat, Int.reduceEq, Int.reduceLT, Int.reduceLE, reduceCtorEq, Tryz.f153, hr1, hcb, hbar, ha, hs', k2, List.length_cons, List.length_nil, ex_if, ex_bool, ex_and, ex_eq]
  have hi : SInv d s a 7 [32] (b, [q], f) := by
    have := MInv.first (B := 1000) k1 k2 (by omega) k3 (fun q0 r o1 o2 o3 => ⟨(k4 q0 r o1 o2 o3).1, (k4 q0 r o1 o2 o3).2.1⟩)
    rw [hbar, if_neg (by simp), if_neg (by simp)] at this
    refine ⟨this, by simp only [List.length_cons, List.length_nil]; omega, fun K' sg' p ps r hM => ?_⟩
    obtain ⟨m1, m2, m3, m4, m5, m6, m7⟩ := hM
    exact (k4 p _ m4 m6 (tail_dl (by rcases m1 with ⟨_, h⟩ | ⟨_, h⟩; exact .inl h; exact .inr h) ps r)).2.2
  have e1 : [PV.agg [.int .i64 q.kind, .str q.field, .str q.text, .int .i64 q.low, .int .i64 q.high, .slo 6 (q.parts.map pvo)]] = [q].map pvo := by simp [pvo_eq]
  rw [e1]
  refine ends_wx (fun x : Nat × List Query × Bool => s.length - x.1) (fun x => mkSt [(0, .addr 0 0 0), (1, .int .i64 d), (4, .addr 1 0 0), (5, .addr 2 0 0), (6, .str [32]), (1000000, .addr 0 0 0)] [.pto [.str s, .int .i64 (x.1 : Nat), .bool x.2.2], .pto [.int .i64 0, .str [], .str [], .int .i64 0, .int .i64 0, .slo 6 []], .pto [.int .i64 7, .str [], .str [], .int .i64 0, .int .i64 0, .slo 6 (x.2.1.map pvo)]]) (SInv d s a 7 [32]) (b, [q], f) hi ?_
  clear hr1 k1 k2 k3 k4 hi e1 hcb hbar
  rintro ⟨b, acc, f⟩ hI ihl
  obtain ⟨hI, hal, hfl⟩ := hI
  simp only at hI hal hfl
  obtain ⟨i1, i2, i3, i4, i5, _⟩ := id hI
  have hacc : acc.length ≤ 1099511627776 := by omega
  cases f with
  | true =>
    have hrt : ∀ q0 r, okQ (d + 1) q0 = true → s.drop a = putQ q0 ++ r → Dl r → False := fun q0 r o1 o2 o3 => by
      obtain ⟨K', sg', p, ps, hM, _⟩ := paren_mh c40 o1 o2 o3
      cases hfl _ _ _ _ _ hM
    cases c41 : begM [41] (s.drop b) with
    | true =>
      have hb41 := begM_len c41
      rw [List.length_drop] at hb41
      simp only [List.length_cons, List.length_nil] at hb41
      simp only [go_sem, ↓reduceIte, Nat.reduceAdd, Nat.reduceSub, Nat.reduceEqDiff, Nat.reduceLT, Nat.reduceLeDiff, Nat.reduceMul, Int.reduceNeg, Int.reduceToNat, Int.reduceEq, Int.reduceLT, Int.reduceLE, reduceCtorEq, c41, i2, hs', List.length_cons, List.length_nil, ex_if, ex_bool, ex_and, ex_eq]
      exact spost (q := .mk 7 [] [] 0 0 acc) (by omega) (by omega) (node_sm hacc i5) fun q0 r o1 o2 o3 => (hrt q0 r o1 o2 o3).elim
    | false =>
      simp only [go_sem, ↓reduceIte, Nat.reduceAdd, Nat.reduceSub, Nat.reduceEqDiff, Nat.reduceLT, Nat.reduceLeDiff, Nat.reduceMul, Int.reduceNeg, Int.reduceToNat, Int.reduceEq, Int.reduceLT, Int.reduceLE, reduceCtorEq, c41, i2, hs', List.length_cons, List.length_nil, ex_if, ex_bool, ex_and, ex_eq]
      exact spost (q := .mk 7 [] [] 0 0 acc) (by omega) (by omega) (node_sm hacc i5) fun q0 r o1 o2 o3 => (hrt q0 r o1 o2 o3).elim
  | false =>
    cases hsg : begM [32] (s.drop b) with
    | true =>
      have hle := begM_len hsg
      rw [List.length_drop] at hle
      simp only [List.length_cons, List.length_nil] at hle
      have hbn : b + 1 ≤ s.length := by omega
      obtain ⟨r2, hr2, q2, c, f2, rfl, j1, j2, j3, j4⟩ := ih (b + 1) hbn
      have h5 : (acc.length + 1) * 96 ≤ 140737488355328 := by omega
      simp only [go_sem, ↓reduceIte, Nat.reduceAdd, Nat.reduceSub, Nat.reduceEqDiff, Nat.reduceLT, Nat.reduceLeDiff, Nat.reduceMul, Int.reduceNeg, Int.reduceToNat, Int.reduceEq, Int.reduceLT, Int.reduceLE, reduceCtorEq, hsg, hr2, i2, hs', h5, List.length_cons, List.length_nil, ex_if, ex_bool, ex_and, ex_eq]
      refine ⟨by omega, by decide +kernel, ihl (c, acc ++ [q2], f2) (by simp only; omega) ⟨hI.step hsg j3 (by simpa using j1) j2 (by omega) (fun q0 r o1 o2 o3 => ⟨(j4 q0 r o1 o2 o3).1, (j4 q0 r o1 o2 o3).2.1⟩), by simp only [List.length_append, List.length_cons, List.length_nil]; omega, fun K' sg' p ps r hM => ?_⟩⟩
      obtain ⟨x, r', x1, x2, x3⟩ := hI.next hsg hM
      exact (j4 x r' x1 x2 x3).2.2
    | false =>
      cases c41 : begM [41] (s.drop b) with
      | true =>
        have hb41 := begM_len c41
        rw [List.length_drop] at hb41
        simp only [List.length_cons, List.length_nil] at hb41
        simp only [go_sem, ↓reduceIte, Nat.reduceAdd, Nat.reduceSub, Nat.reduceEqDiff, Nat.reduceLT, Nat.reduceLeDiff, Nat.reduceMul, Int.reduceNeg, Int.reduceToNat, Int.reduceEq, Int.reduceLT, Int.reduceLE, reduceCtorEq, hsg, c41, i2, hs', List.length_cons, List.length_nil, ex_if, ex_bool, ex_and, ex_eq]
        refine spost (q := .mk 7 [] [] 0 0 acc) (by omega) (by omega) (node_sm hacc i5) fun q0 r o1 o2 o3 => ?_
        obtain ⟨K', sg', p, ps, hM, rfl, hlen⟩ := paren_mh c40 o1 o2 o3
        obtain ⟨rfl, rfl, hb⟩ := hI.stop hsg hM
        have he := many_end hM i2 i1 hb
        exact ⟨rfl, by omega, rfl⟩
      | false =>
        simp only [go_sem, ↓reduceIte, Nat.reduceAdd, Nat.reduceSub, Nat.reduceEqDiff, Nat.reduceLT, Nat.reduceLeDiff, Nat.reduceMul, Int.reduceNeg, Int.reduceToNat, Int.reduceEq, Int.reduceLT, Int.reduceLE, reduceCtorEq, hsg, c41, i2, hs', List.length_cons, List.length_nil, ex_if, ex_bool, ex_and, ex_eq]
        refine spost (q := .mk 7 [] [] 0 0 acc) (by omega) (by omega) (node_sm hacc i5) fun q0 r o1 o2 o3 => ?_
        obtain ⟨K', sg', p, ps, hM, rfl, hlen⟩ := paren_mh c40 o1 o2 o3
        obtain ⟨_, _, hb⟩ := hI.stop hsg hM
        rw [hb, begM_yes] at c41
        cases c41
end Go.Proofs.YtmanllfmgghadaaGreatDoor.PVE
