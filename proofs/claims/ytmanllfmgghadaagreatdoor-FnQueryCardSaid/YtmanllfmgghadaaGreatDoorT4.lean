/- Draws. -/
import Derived.Test.YtmanllfmgghadaaGreatDoorT3
set_option linter.unusedVariables false
set_option linter.unusedSimpArgs false
set_option maxRecDepth 100000
namespace Go.Proofs.YtmanllfmgghadaaGreatDoor.PVE
open PV Query
@[go_sem] theorem bytePV_ty (b : UInt8) : bytePV b = .int .u8 b.toNat := rfl
theorem byte_in (b : UInt8) : IntKind.i64.wrap (b.toNat : Int) = (b.toNat : Int) := by
  have := b.toNat_lt
  exact wrap_in (by omega) (by omega)
theorem tmod_nat (a n : Nat) : ((a : Int).tmod (n : Int)) = ((a % n : Nat) : Int) := (Int.ofNat_tmod a n).symm ▸ rfl
theorem xor_nat {x y : Nat} (hx : x < 2 ^ 63) (hy : y < 2 ^ 63) : bits .xor .i64 (x : Int) (y : Int) = ((x ^^^ y : Nat) : Int) := by
  have h : x ^^^ y < 2 ^ 63 := Nat.xor_lt_two_pow hx hy
  show IntKind.i64.wrap (((BitVec.ofInt 64 (x : Int)) ^^^ (BitVec.ofInt 64 (y : Int))).toNat : Int) = _
  rw [BitVec.ofInt_natCast, BitVec.ofInt_natCast, BitVec.toNat_xor, BitVec.toNat_ofNat, BitVec.toNat_ofNat, Nat.mod_eq_of_lt (by omega), Nat.mod_eq_of_lt (by omega)]
  exact wrap_in (by omega) (by omega)
def mixI (x : Nat) : Nat := x ^^^ (x / 64)
theorem pick_ex (b : Str) (p : Nat) (n : Int) (hp : p ≤ 1099511627776) (hb : b.length ≤ 2000) : ∃ v, R S0 107 [.pto [.sl (b.map bytePV), .int .i64 p], .int .i64 n] = some ⟨[some (.pto [.sl (b.map bytePV), .int .i64 (p + 1 : Nat)]), none], .int .i64 v⟩ ∧ 0 ≤ v ∧ (1 ≤ n → v < n) := by
  have hw : IntKind.i64.wrap ((p : Int) + 1) = ((p + 1 : Nat) : Int) := wrap_in (by omega) (by omega)
  have hw2 : IntKind.i64.wrap (((p + 1 : Nat) : Int) - 1) = (p : Int) := by rw [wrap_in (by omega) (by omega)]; omega
  by_cases h1 : n < 1
  · refine ⟨0, ?_, by omega, by omega⟩
    refine go107 rfl ?_; simp only [go_sem, ↓reduceIte, Nat.reduceAdd, Nat.reduceSub, Nat.reduceEqDiff, Nat.reduceLT, Nat.reduceLeDiff, Nat.reduceMul, Int.reduceNeg, Int.reduceToNat, Int.reduceEq, Int.reduceLT, Int.reduceLE, reduceCtorEq, Tryz.f107, h1, hw]
  by_cases h2 : (b.length : Int) = 0
  · refine ⟨0, ?_, by omega, by omega⟩
    refine go107 rfl ?_; simp only [go_sem, ↓reduceIte, Nat.reduceAdd, Nat.reduceSub, Nat.reduceEqDiff, Nat.reduceLT, Nat.reduceLeDiff, Nat.reduceMul, Int.reduceNeg, Int.reduceToNat, Int.reduceEq, Int.reduceLT, Int.reduceLE, reduceCtorEq, Tryz.f107, h1, h2, hw]
  have hn0 : ¬ n = 0 := by omega
  obtain ⟨m, rfl⟩ : ∃ m : Nat, n = m := ⟨n.toNat, by omega⟩
  have hm : 0 < m := by omega
  by_cases h3 : p < b.length
  · refine ⟨((b.getD p 0).toNat % m : Nat), ?_, by omega, fun _ => by have := Nat.mod_lt (b.getD p 0).toNat hm; omega⟩
    refine go107 rfl ?_; simp only [go_sem, ↓reduceIte, Nat.reduceAdd, Nat.reduceSub, Nat.reduceEqDiff, Nat.reduceLT, Nat.reduceLeDiff, Nat.reduceMul, Int.reduceNeg, Int.reduceToNat, Int.reduceEq, Int.reduceLT, Int.reduceLE, reduceCtorEq, Tryz.f107, h1, h2, h3, hw, hw2, hn0, byte_in, tmod_nat]
    rfl
  · have hl : 0 < b.length := by omega
    have hm1 : p % b.length < b.length := Nat.mod_lt _ hl
    have e1 : IntKind.i64.wrap ((p : Int) * 7) = ((p * 7 : Nat) : Int) := by rw [wrap_in (by omega) (by omega)]; omega
    have e2 : IntKind.i64.wrap (((p * 7 : Nat) : Int) + 3) = ((p * 7 + 3 : Nat) : Int) := by rw [wrap_in (by omega) (by omega)]; omega
    have hm2 : (p * 7 + 3) % b.length < b.length := Nat.mod_lt _ hl
    have e3 : ∀ c : UInt8, IntKind.i64.wrap ((c.toNat : Int) * 131) = ((c.toNat * 131 : Nat) : Int) := fun c => by have := c.toNat_lt; rw [wrap_in (by omega) (by omega)]; omega
    have e4 : ∀ c : UInt8, IntKind.i64.wrap ((c.toNat : Int) * 1117) = ((c.toNat * 1117 : Nat) : Int) := fun c => by have := c.toNat_lt; rw [wrap_in (by omega) (by omega)]; omega
    have e5 : IntKind.i64.wrap ((p : Int) * 29) = ((p * 29 : Nat) : Int) := by rw [wrap_in (by omega) (by omega)]; omega
    have e6 : (p : Int).tdiv (b.length : Int) = ((p / b.length : Nat) : Int) := (Int.ofNat_tdiv p b.length).symm
    have hq : p / b.length ≤ p := Nat.div_le_self _ _
    generalize p / b.length = D at *
    have e7 : IntKind.i64.wrap (D : Int) = (D : Int) := wrap_in (by omega) (by omega)
    have e8 : IntKind.i64.wrap ((D : Int) * 53) = ((D * 53 : Nat) : Int) := by rw [wrap_in (by omega) (by omega)]; omega
    obtain ⟨c, hc⟩ : ∃ c, b.getD (p % b.length) default = c := ⟨_, rfl⟩
    obtain ⟨d, hd⟩ : ∃ d, b.getD ((p * 7 + 3) % b.length) default = d := ⟨_, rfl⟩
    have hc1 := c.toNat_lt
    have hd1 := d.toNat_lt
    have e9 : IntKind.i64.wrap (((c.toNat * 131 : Nat) : Int) + ((d.toNat * 1117 : Nat) : Int)) = ((c.toNat * 131 + d.toNat * 1117 : Nat) : Int) := by rw [wrap_in (by omega) (by omega)]; omega
    have e10 : IntKind.i64.wrap (((c.toNat * 131 + d.toNat * 1117 : Nat) : Int) + ((p * 29 : Nat) : Int)) = ((c.toNat * 131 + d.toNat * 1117 + p * 29 : Nat) : Int) := by rw [wrap_in (by omega) (by omega)]; omega
    have e11 : IntKind.i64.wrap (((c.toNat * 131 + d.toNat * 1117 + p * 29 : Nat) : Int) + ((D * 53 : Nat) : Int)) = ((c.toNat * 131 + d.toNat * 1117 + p * 29 + D * 53 : Nat) : Int) := by rw [wrap_in (by omega) (by omega)]; omega
    generalize hX : c.toNat * 131 + d.toNat * 1117 + p * 29 + D * 53 = X at e11
    have hX2 : X ≤ 1000000000000000000 := by rw [← hX]; omega
    have e12 : (X : Int).tdiv 64 = ((X / 64 : Nat) : Int) := (Int.ofNat_tdiv X 64).symm
    have e13 : IntKind.i64.wrap ((X / 64 : Nat) : Int) = ((X / 64 : Nat) : Int) := wrap_in (by omega) (by omega)
    have e14 : bits .xor .i64 ((X : Nat) : Int) ((X / 64 : Nat) : Int) = ((mixI X : Nat) : Int) := xor_nat (by omega) (by omega)
    refine ⟨(mixI X % m : Nat), ?_, by omega, fun _ => by have := Nat.mod_lt (mixI X) hm; omega⟩
    refine go107 rfl ?_; simp only [go_sem, ↓reduceIte, Nat.reduceAdd, Nat.reduceSub, Nat.reduceEqDiff, Nat.reduceLT, Nat.reduceLeDiff, Nat.reduceMul, Int.reduceNeg, Int.reduceToNat, Int.reduceEq, Int.reduceLT, Int.reduceLE, reduceCtorEq, Tryz.f107, h1, h2, h3, hw, hw2, hn0, byte_in, tmod_nat, e1, e2, e3, e4, e5, e6, e7, e8, hc, hd, e9, e10, e11, e12, e13, e14, hm1, hm2]
noncomputable def pickV (b : Str) (p : Nat) (n : Int) : Int := open Classical in if h : p ≤ 1099511627776 ∧ b.length ≤ 2000 then (pick_ex b p n h.1 h.2).choose else 0
theorem pickV_in {b : Str} {p : Nat} {n : Int} (hp : p ≤ 1099511627776) (hb : b.length ≤ 2000) : 0 ≤ pickV b p n ∧ (1 ≤ n → pickV b p n < n) := by
  unfold pickV
  rw [dif_pos ⟨hp, hb⟩]
  exact (pick_ex b p n hp hb).choose_spec.2
@[go_sem] theorem pick_R (b : Str) (p : Nat) (n : Int) (hp : p ≤ 1099511627776) (hb : b.length ≤ 2000) : R S0 107 [.pto [.sl (b.map bytePV), .int .i64 p], .int .i64 n] = some ⟨[some (.pto [.sl (b.map bytePV), .int .i64 (p + 1 : Nat)]), none], .int .i64 (pickV b p n)⟩ := by
  unfold pickV
  rw [dif_pos ⟨hp, hb⟩]
  exact (pick_ex b p n hp hb).choose_spec.1
@[go_sem] theorem strsOf_nil : strsOf [] = [] := id rfl
@[go_sem] theorem strsOf_cons {s : Str} {l : List PV} : strsOf (.str s :: l) = s :: strsOf l := id rfl
@[go_sem] theorem strsAll_nil : strsAll [] = true := id rfl
@[go_sem] theorem strsAll_cons {s : Str} {l : List PV} : strsAll (.str s :: l) = strsAll l := id rfl
def intsOf : List PV → List Int
  | [] => []
  | .int .i64 s :: l => s :: intsOf l
  | _ :: l => intsOf l
def intsAll : List PV → Bool
  | [] => true
  | .int .i64 _ :: l => intsAll l
  | _ => false
theorem ints_map : ∀ {l : List PV}, intsAll l = true → l = (intsOf l).map (.int .i64)
  | [], _ => rfl
  | .int .i64 s :: l, h => by rw [intsOf, List.map_cons, ← ints_map (l := l) h]
@[go_sem] theorem intsOf_nil : intsOf [] = [] := id rfl
@[go_sem] theorem intsOf_cons {s : Int} {l : List PV} : intsOf (.int .i64 s :: l) = s :: intsOf l := id rfl
@[go_sem] theorem intsAll_nil : intsAll [] = true := id rfl
@[go_sem] theorem intsAll_cons {s : Int} {l : List PV} : intsAll (.int .i64 s :: l) = intsAll l := id rfl
noncomputable def ofV (b : Str) (p : Nat) (l : List Str) : Str := l.getD (pickV b p l.length).toNat default
noncomputable def oneV (b : Str) (p : Nat) (l : List Int) : Int := l.getD (pickV b p l.length).toNat default
theorem ofV_mem {b : Str} {p : Nat} {l : List Str} (hp : p ≤ 1099511627776) (hb : b.length ≤ 2000) (hl : 0 < l.length) : ofV b p l ∈ l := by
  have := pickV_in (n := l.length) hp hb
  unfold ofV
  rw [List.getD_eq_getElem?_getD, List.getElem?_eq_getElem (by omega)]
  exact List.getElem_mem _
@[go_sem] theorem of_R (b : Str) (p : Nat) (xs : List PV) (hx : strsAll xs = true) (hl : 0 < xs.length) (hp : p ≤ 1099511627776) (hb : b.length ≤ 2000) : R S0 108 [.pto [.sl (b.map bytePV), .int .i64 p], .sl xs] = some ⟨[some (.pto [.sl (b.map bytePV), .int .i64 (p + 1 : Nat)]), none], .str (ofV b p (strsOf xs))⟩ := by
  rw [strs_map hx] at hl ⊢
  rw [show strsOf ((strsOf xs).map .str) = strsOf xs by rw [← strs_map hx]]
  generalize strsOf xs = l at *
  rw [List.length_map] at hl
  have h := pickV_in (n := l.length) hp hb
  have h2 : (pickV b p l.length).toNat < l.length := by omega
  refine go108 rfl ?_; simp only [go_sem, ↓reduceIte, Nat.reduceAdd, Nat.reduceSub, Nat.reduceEqDiff, Nat.reduceLT, Nat.reduceLeDiff, Nat.reduceMul, Int.reduceNeg, Int.reduceToNat, Int.reduceEq, Int.reduceLT, Int.reduceLE, reduceCtorEq, Tryz.f108, hp, hb, h.1, h2]
  rfl
@[go_sem] theorem one_R (b : Str) (p : Nat) (xs : List PV) (hx : intsAll xs = true) (hl : 0 < xs.length) (hp : p ≤ 1099511627776) (hb : b.length ≤ 2000) : R S0 164 [.pto [.sl (b.map bytePV), .int .i64 p], .sl xs] = some ⟨[some (.pto [.sl (b.map bytePV), .int .i64 (p + 1 : Nat)]), none], .int .i64 (oneV b p (intsOf xs))⟩ := by
  rw [ints_map hx] at hl ⊢
  rw [show intsOf ((intsOf xs).map (.int .i64)) = intsOf xs by rw [← ints_map hx]]
  generalize intsOf xs = l at *
  rw [List.length_map] at hl
  have h := pickV_in (n := l.length) hp hb
  have h2 : (pickV b p l.length).toNat < l.length := by omega
  refine go164 rfl ?_; simp only [go_sem, ↓reduceIte, Nat.reduceAdd, Nat.reduceSub, Nat.reduceEqDiff, Nat.reduceLT, Nat.reduceLeDiff, Nat.reduceMul, Int.reduceNeg, Int.reduceToNat, Int.reduceEq, Int.reduceLT, Int.reduceLE, reduceCtorEq, Tryz.f164, hp, hb, h.1, h2]
  rfl
theorem more {p : Nat} (h : p + 20 ≤ 1099511627776) : p ≤ 1099511627776 ∧ p + 1 ≤ 1099511627776 ∧ p + 1 + 1 ≤ 1099511627776 ∧ p + 1 + 1 + 1 ≤ 1099511627776 ∧ p + 1 + 1 + 1 + 1 ≤ 1099511627776 ∧ p + 1 + 1 + 1 + 1 + 1 ≤ 1099511627776 := by omega
theorem ex_if {α : Type} {c : Prop} {A B P : α → Prop} : (∃ r, ((c → A r) ∧ (¬c → B r)) ∧ P r) = ((c → ∃ r, A r ∧ P r) ∧ (¬c → ∃ r, B r ∧ P r)) := by
  by_cases h : c <;> simp [h]
theorem ex_bool {α : Type} {c : Bool} {A B P : α → Prop} : (∃ r, ((c = true → A r) ∧ (c = false → B r)) ∧ P r) = ((c = true → ∃ r, A r ∧ P r) ∧ (c = false → ∃ r, B r ∧ P r)) := by
  cases c <;> simp
theorem ex_and {α : Type} {c : Prop} {A P : α → Prop} : (∃ r, (c ∧ A r) ∧ P r) = (c ∧ ∃ r, A r ∧ P r) := by
  by_cases h : c <;> simp [h]
theorem ex_eq {α : Type} {a : α} {P : α → Prop} : (∃ r, a = r ∧ P r) = P a := by simp
theorem ofV_len {b : Str} {p : Nat} {l : List Str} (hp : p ≤ 1099511627776) (hb : b.length ≤ 2000) (hl : 0 < l.length) (h : (l.all fun s => decide (s.length ≤ 1000)) = true) : (ofV b p l).length ≤ 1099511627776 := by
  have := (List.all_eq_true.1 h) _ (ofV_mem hp hb hl)
  simp at this
  omega
def QPost (b : Str) (p c : Nat) (n : List (Option PV)) (r : Ans) : Prop := ∃ q : Query, ∃ p' : Nat, r = ⟨some (.pto [.sl (b.map bytePV), .int .i64 (p' : Nat)]) :: n, q.pvo⟩ ∧ p ≤ p' ∧ p' ≤ p + c ∧ q.Sm
theorem qpost_leaf {b : Str} {p c p' : Nat} {n : List (Option PV)} {k lo hi : Int} {f t : Str} (h1 : p ≤ p') (h2 : p' ≤ p + c) (hf : f.length ≤ 1099511627776) (ht : t.length ≤ 1099511627776) : QPost b p c n ⟨some (.pto [.sl (b.map bytePV), .int .i64 (p' : Nat)]) :: n, .agg [.int .i64 k, .str f, .str t, .int .i64 lo, .int .i64 hi, .slo 6 []]⟩ :=
  ⟨.mk k f t lo hi [], p', by rw [pvo_eq]; rfl, h1, h2, ⟨_, hf, ht, by show 0 ≤ _; omega, fun p hp => by cases hp⟩⟩
theorem QPost.get {b : Str} {p c : Nat} {n : List (Option PV)} {r : Ans} (h : QPost b p c n r) : ∃ q : Query, ∃ p' : Nat, r = ⟨some (.pto [.sl (b.map bytePV), .int .i64 (p' : Nat)]) :: n, .agg [.int .i64 q.kind, .str q.field, .str q.text, .int .i64 q.low, .int .i64 q.high, .slo 6 (q.parts.map pvo)]⟩ ∧ p ≤ p' ∧ p' ≤ p + c ∧ q.Sm := by
  obtain ⟨q, p', h1, h2⟩ := h
  exact ⟨q, p', by rw [h1, pvo_eq], h2⟩
theorem qpost_q {b : Str} {p c p' : Nat} {n : List (Option PV)} {q : Query} (h1 : p ≤ p') (h2 : p' ≤ p + c) (h : q.Sm) : QPost b p c n ⟨some (.pto [.sl (b.map bytePV), .int .i64 (p' : Nat)]) :: n, .agg [.int .i64 q.kind, .str q.field, .str q.text, .int .i64 q.low, .int .i64 q.high, .slo 6 (q.parts.map pvo)]⟩ :=
  ⟨q, p', by rw [pvo_eq], h1, h2, h⟩
theorem leaf_ex (l : List Field) (b : Str) (p : Nat) (hp : p + 20 ≤ 1099511627776) (hb : b.length ≤ 2000) : ∃ r, R S0 173 [.pto [.sl (b.map bytePV), .int .i64 p], .sl (l.map Field.pv)] = some r ∧ QPost b p 4 [none] r := by
  have hm := more hp
  refine (fun ⟨r, h, hp⟩ => ⟨r, go173 rfl h, hp⟩ : (∃ r, Ends S0 _ _ r ∧ _) → _) ?_
  simp only [go_sem, ↓reduceIte, Nat.reduceAdd, Nat.reduceSub, Nat.reduceEqDiff, Nat.reduceLT, Nat.reduceLeDiff, Nat.reduceMul, Int.reduceNeg, Int.reduceToNat, Int.reduceEq, Int.reduceLT, Int.reduceLE, reduceCtorEq, Tryz.f173, hm, hb, ex_if, ex_bool, ex_and, ex_eq]
  repeat' (first | apply And.intro | intro _)
  all_goals (refine qpost_leaf ?_ ?_ ?_ ?_ <;> first | omega | exact ofV_len (by omega) hb (by decide) (by decide) | (simp only [List.length_cons, List.length_nil]; omega))
theorem ends_wx {S : Sys} {F : Fx} {c : Code} {ks : List Fr} {P : Ans → Prop} {σ : Type} (μ : σ → Nat) (X : σ → St) (I : σ → Prop) (s0 : σ) (h0 : I s0)
    (hs : ∀ s, I s → (∀ s', μ s' < μ s → I s' → ∃ r, Ends S F (.head c (X s') ks) r ∧ P r) → ∃ r, Ends S F (.run c (X s) (.loop c :: ks)) r ∧ P r) : ∃ r, Ends S F (.head c (X s0) ks) r ∧ P r := by
  have key : ∀ d s, μ s = d → I s → ∃ r, Ends S F (.head c (X s) ks) r ∧ P r := by
    intro d
    induction d using Nat.strongRecOn with
    | _ d ih =>
      intro s hd hI
      simp only [go_head]
      exact hs s hI fun s' hlt hI' => ih (μ s') (by omega) s' rfl hI'
  exact key _ s0 rfl h0
@[go_sem] theorem Query.snoc (l : List Query) (a lo hi : Int) (b c : Str) (m : List Query) : l.map pvo ++ [.agg [.int .i64 a, .str b, .str c, .int .i64 lo, .int .i64 hi, .slo 6 (m.map pvo)]] = (l ++ [Query.mk a b c lo hi m]).map pvo := by simp [pvo_eq, Query.kind, Query.field, Query.text, Query.low, Query.high, Query.parts]
theorem Query.eta (q : Query) : Query.mk q.kind q.field q.text q.low q.high q.parts = q := by cases q; rfl
theorem qpost_node {b : Str} {p c p' : Nat} {n : List (Option PV)} {k : Int} {ps : List Query} (h1 : p ≤ p') (h2 : p' ≤ p + c) (hl : ps.length ≤ 1099511627776) (h : ∀ q ∈ ps, q.Sm) : QPost b p c n ⟨some (.pto [.sl (b.map bytePV), .int .i64 (p' : Nat)]) :: n, .agg [.int .i64 k, .str [], .str [], .int .i64 0, .int .i64 0, .slo 6 (ps.map pvo)]⟩ :=
  ⟨.mk k [] [] 0 0 ps, p', by rw [pvo_eq]; rfl, h1, h2, ⟨_, by show 0 ≤ _; omega, by show 0 ≤ _; omega, hl, h⟩⟩
theorem query_ex (l : List Field) (d : Nat) : ∀ (b : Str) (p : Nat) (hp : p + 20 + 10 ^ (d + 1) ≤ 1099511627776) (hb : b.length ≤ 2000) (hd : d ≤ 3), ∃ r, R S0 110 [.pto [.sl (b.map bytePV), .int .i64 p], .sl (l.map Field.pv), .int .i64 d] = some r ∧ QPost b p (10 ^ (d + 1)) [none, none] r := by
  induction d with
  | zero =>
    intro b p hp hb hd
    obtain ⟨r, hr, h⟩ := leaf_ex l b p (by omega) hb
    obtain ⟨q, p', rfl, h1, h2, hq⟩ := h.get
    refine (fun ⟨r, h, hp⟩ => ⟨r, go110 rfl h, hp⟩ : (∃ r, Ends S0 _ _ r ∧ _) → _) ?_
    have h0 : ((0 : Nat) : Int) < 2 := by omega
    simp only [go_sem, ↓reduceIte, Nat.reduceAdd, Nat.reduceSub, Nat.reduceEqDiff, Nat.reduceLT, Nat.reduceLeDiff, Nat.reduceMul, Int.reduceNeg, Int.reduceToNat, Int.reduceEq, Int.reduceLT, Int.reduceLE, reduceCtorEq, Tryz.f110, h0, hr, hb, ex_if, ex_bool, ex_and, ex_eq]
    exact qpost_q h1 (by omega) hq
  | succ d ih =>
    intro b p hp hb hd
    have hpow : 10 ≤ 10 ^ (d + 1) := by rw [Nat.pow_succ]; have : 0 < 10 ^ d := Nat.pow_pos (by omega); omega
    have hpow2 : 10 ^ (d + 1 + 1) = 10 ^ (d + 1) * 10 := by rw [Nat.pow_succ]
    have hm := more (p := p) (by omega)
    refine (fun ⟨r, h, hp⟩ => ⟨r, go110 rfl h, hp⟩ : (∃ r, Ends S0 _ _ r ∧ _) → _) ?_
    by_cases hc : ((d + 1 : Nat) : Int) < 2
    · obtain ⟨r, hr, h⟩ := leaf_ex l b p (by omega) hb
      obtain ⟨q, p', rfl, h1, h2, hq⟩ := h.get
      simp only [go_sem, ↓reduceIte, Nat.reduceAdd, Nat.reduceSub, Nat.reduceEqDiff, Nat.reduceLT, Nat.reduceLeDiff, Nat.reduceMul, Int.reduceNeg, Int.reduceToNat, Int.reduceEq, Int.reduceLT, Int.reduceLE, reduceCtorEq, Tryz.f110, hc, hr, hb, hm, ex_if, ex_bool, ex_and, ex_eq]
      exact qpost_q h1 (by omega) hq
    · by_cases hc2 : pickV b p 2 = 0
      · obtain ⟨r, hr, h⟩ := leaf_ex l b (p + 1) (by omega) hb
        obtain ⟨q, p', rfl, h1, h2, hq⟩ := h.get
        simp only [go_sem, ↓reduceIte, Nat.reduceAdd, Nat.reduceSub, Nat.reduceEqDiff, Nat.reduceLT, Nat.reduceLeDiff, Nat.reduceMul, Int.reduceNeg, Int.reduceToNat, Int.reduceEq, Int.reduceLT, Int.reduceLE, reduceCtorEq, Tryz.f110, hc, hr, hb, hm, hc2, ex_if, ex_bool, ex_and, ex_eq]
        exact qpost_q (by omega) (by omega) hq
      · have hdd : IntKind.i64.wrap (((d + 1 : Nat) : Int) - 1) = (d : Int) := by rw [wrap_in (by omega) (by omega)]; omega
        obtain ⟨r, hr, h⟩ := ih b (p + 1 + 1) (by omega) hb (by omega)
        obtain ⟨q, p', rfl, h1, h2, hq⟩ := h.get
        have hp' : p' ≤ 1099511627776 := by omega
        simp only [go_sem, ↓reduceIte, Nat.reduceAdd, Nat.reduceSub, Nat.reduceEqDiff, Nat.reduceLT, Nat.reduceLeDiff, Nat.reduceMul, Int.reduceNeg, Int.reduceToNat, Int.reduceEq, Int.reduceLT, Int.reduceLE, reduceCtorEq, Tryz.f110, hc, hr, hb, hm, hc2, hdd, hp', ex_if, ex_bool, ex_and, ex_eq]
        have e1 : [PV.agg [.int .i64 q.kind, .str q.field, .str q.text, .int .i64 q.low, .int .i64 q.high, .slo 6 (q.parts.map pvo)]] = [q].map pvo := by simp [pvo_eq]
        rw [e1]
        have hpk := pickV_in (p := p') (n := 2) hp' hb
        have e2 : IntKind.i64.wrap (1 + pickV b p' 2) = ((1 + pickV b p' 2).toNat : Int) := by rw [wrap_in (by omega) (by omega)]; omega
        rw [e2]
        generalize IntKind.i64.wrap (7 + pickV b (p + 1) 3) = k
        refine ⟨fun _ => ?_, fun _ => qpost_node (by omega) (by omega) (by simp) (by simpa using hq)⟩
        refine ends_wx (fun x : Nat × Nat × List Query => x.1) (fun x => mkSt [(0, .addr 0 0 0), (1, .sl (l.map Field.pv)), (2, .int .i64 (d + 1 : Nat)), (6, .addr 1 0 0), (7, .addr 2 0 0), (8, .int .i64 (x.1 : Nat)), (1000000, .addr 0 0 0)] [.pto [.sl (b.map bytePV), .int .i64 (x.2.1 : Nat)], .pto [.int .i64 0, .str [], .str [], .int .i64 0, .int .i64 0, .slo 6 []], .pto [.int .i64 k, .str [], .str [], .int .i64 0, .int .i64 0, .slo 6 (x.2.2.map pvo)]]) (fun x => x.1 ≤ 2 ∧ p' + 1 ≤ x.2.1 ∧ x.2.1 ≤ p' + 1 + (2 - x.1) * 10 ^ (d + 1) ∧ x.2.2.length + x.1 ≤ 3 ∧ ∀ q ∈ x.2.2, q.Sm) ((1 + pickV b p' 2).toNat, p' + 1, [q]) ⟨by simp only; omega, by simp only; omega, by simp only; omega, by simp; omega, by simpa using hq⟩ ?_
        rintro ⟨n, p2, ps⟩ ⟨k1, k2, k3, k4, k5⟩ ihl
        simp only at k1 k2 k3 k4 k5
        cases n with
        | zero =>
          have h0 : ¬ (0 : Int) < ((0 : Nat) : Int) := by omega
          simp only [go_sem, ↓reduceIte, Nat.reduceAdd, Nat.reduceSub, Nat.reduceEqDiff, Nat.reduceLT, Nat.reduceLeDiff, Nat.reduceMul, Int.reduceNeg, Int.reduceToNat, Int.reduceEq, Int.reduceLT, Int.reduceLE, reduceCtorEq, h0, ex_if, ex_bool, ex_and, ex_eq]
          exact qpost_node (by omega) (by omega) (by omega) k5
        | succ m =>
          have h0 : (0 : Int) < ((m + 1 : Nat) : Int) := by omega
          have h3 : IntKind.i64.wrap (((m + 1 : Nat) : Int) - 1) = (m : Int) := by rw [wrap_in (by omega) (by omega)]; omega
          have hm2 : (2 - (m + 1)) * 10 ^ (d + 1) + 10 ^ (d + 1) = (2 - m) * 10 ^ (d + 1) := by
            have : 2 - m = (2 - (m + 1)) + 1 := by omega
            rw [this, Nat.add_mul, Nat.one_mul]
          have hm3 : (2 - m) * 10 ^ (d + 1) ≤ 2 * 10 ^ (d + 1) := Nat.mul_le_mul_right _ (by omega)
          obtain ⟨r2, hr2, hh⟩ := ih b p2 (by omega) hb (by omega)
          obtain ⟨q2, p3, rfl, j1, j2, hq2⟩ := hh.get
          have h5 : (ps.length + 1) * 96 ≤ 140737488355328 := by omega
          simp only [go_sem, ↓reduceIte, Nat.reduceAdd, Nat.reduceSub, Nat.reduceEqDiff, Nat.reduceLT, Nat.reduceLeDiff, Nat.reduceMul, Int.reduceNeg, Int.reduceToNat, Int.reduceEq, Int.reduceLT, Int.reduceLE, reduceCtorEq, h0, hr2, hdd, h3, h5, ex_if, ex_bool, ex_and, ex_eq]
          refine ⟨by omega, by decide +kernel, ?_⟩
          rw [Query.eta]
          exact ihl (m, p3, ps ++ [q2]) (by simp only; omega) ⟨by simp only; omega, by simp only; omega, by simp only; omega, by simp; omega, fun q hq => by
            rcases List.mem_append.1 hq with hq | hq
            · exact k5 q hq
            · simp at hq; subst hq; exact hq2⟩
theorem qpost_all {b : Str} {p c p' : Nat} {n : List (Option PV)} {k lo hi : Int} {f t : Str} {ps : List Query} (h1 : p ≤ p') (h2 : p' ≤ p + c) (hf : f.length ≤ 1099511627776) (ht : t.length ≤ 1099511627776) (hl : ps.length ≤ 1099511627776) (h : ∀ q ∈ ps, q.Sm) : QPost b p c n ⟨some (.pto [.sl (b.map bytePV), .int .i64 (p' : Nat)]) :: n, .agg [.int .i64 k, .str f, .str t, .int .i64 lo, .int .i64 hi, .slo 6 (ps.map pvo)]⟩ :=
  ⟨.mk k f t lo hi ps, p', by rw [pvo_eq]; rfl, h1, h2, ⟨_, hf, ht, hl, h⟩⟩
def notQ (q : Query) : Query := .mk 9 [] [] 0 0 [q]
theorem any_ex (l : List Field) (b : Str) (p : Nat) (hp : p + 20000 ≤ 1099511627776) (hb : b.length ≤ 2000) : ∃ r, R S0 102 [.pto [.sl (b.map bytePV), .int .i64 p], .sl (l.map Field.pv)] = some r ∧ QPost b p 10010 [none] r := by
  obtain ⟨r, hr, h⟩ := query_ex l 3 b p (by omega) hb (by omega)
  obtain ⟨q, p', rfl, h1, h2, hq⟩ := h.get
  rw [show ((3 : Nat) : Int) = 3 from rfl] at hr
  have hm := more (p := p') (by omega)
  obtain ⟨_, hf, ht, hpl, hs⟩ := id hq
  refine (fun ⟨r, h, hp⟩ => ⟨r, go102 rfl h, hp⟩ : (∃ r, Ends S0 _ _ r ∧ _) → _) ?_
  simp only [go_sem, ↓reduceIte, Nat.reduceAdd, Nat.reduceSub, Nat.reduceEqDiff, Nat.reduceLT, Nat.reduceLeDiff, Nat.reduceMul, Int.reduceNeg, Int.reduceToNat, Int.reduceEq, Int.reduceLT, Int.reduceLE, reduceCtorEq, Tryz.f102, hr, hb, hm, ex_if, ex_bool, ex_and, ex_eq]
  refine ⟨fun _ => ?_, fun _ => ⟨fun _ => ?_, fun _ => ⟨fun _ => ?_, fun _ => ⟨fun _ => ?_, fun _ => ⟨fun _ => ?_, fun _ => ?_⟩⟩⟩⟩⟩
  · exact qpost_all (by omega) (by omega) hf ht hpl hs
  · exact qpost_all (by omega) (by omega) hf (ofV_len (by omega) hb (by decide) (by decide)) hpl hs
  · exact qpost_all (by omega) (by omega) (ofV_len (by omega) hb (by decide) (by decide)) ht hpl hs
  · exact qpost_all (by omega) (by omega) hf ht hpl hs
  · refine ends_wx (fun x : Nat × Query => 2 - x.1) (fun x => mkSt [(4, .addr 0 0 0), (5, .addr 1 0 0), (6, .int .i64 (x.1 : Nat)), (1000000, .addr 2 0 0)] [.pto [.int .i64 0, .str [], .str [], .int .i64 0, .int .i64 0, .slo 6 []], .pto [.int .i64 x.2.kind, .str x.2.field, .str x.2.text, .int .i64 x.2.low, .int .i64 x.2.high, .slo 6 (x.2.parts.map pvo)], .pto [.sl (b.map bytePV), .int .i64 (p' + 1 : Nat)]]) (fun x => x.1 ≤ 2 ∧ x.2.Sm) (0, q) ⟨by simp only; omega, hq⟩ ?_
    rintro ⟨n, q⟩ ⟨k1, k2⟩ ihl
    simp only at k1 k2
    obtain ⟨_, hf, ht, hpl, hs⟩ := id k2
    by_cases hn : n < 2
    · have h0 : (n : Int) < 2 := by omega
      have h3 : IntKind.i64.wrap ((n : Int) + 1) = ((n + 1 : Nat) : Int) := by rw [wrap_in (by omega) (by omega)]; omega
      have e1 : [PV.agg [.int .i64 q.kind, .str q.field, .str q.text, .int .i64 q.low, .int .i64 q.high, .slo 6 (q.parts.map pvo)]] = [q].map pvo := by simp [pvo_eq]
      simp only [go_sem, ↓reduceIte, Nat.reduceAdd, Nat.reduceSub, Nat.reduceEqDiff, Nat.reduceLT, Nat.reduceLeDiff, Nat.reduceMul, Int.reduceNeg, Int.reduceToNat, Int.reduceEq, Int.reduceLT, Int.reduceLE, reduceCtorEq, h0, h3, ex_if, ex_bool, ex_and, ex_eq]
      rw [e1]
      exact ihl (n + 1, notQ q) (by simp only; omega) ⟨by simp only; omega, ⟨_, by show 0 ≤ _; omega, by show 0 ≤ _; omega, by show 1 ≤ _; omega, fun p hp => by simp [notQ, Query.parts] at hp; subst hp; exact k2⟩⟩
    · have h0 : ¬ (n : Int) < 2 := by omega
      simp only [go_sem, ↓reduceIte, Nat.reduceAdd, Nat.reduceSub, Nat.reduceEqDiff, Nat.reduceLT, Nat.reduceLeDiff, Nat.reduceMul, Int.reduceNeg, Int.reduceToNat, Int.reduceEq, Int.reduceLT, Int.reduceLE, reduceCtorEq, h0, ex_if, ex_bool, ex_and, ex_eq]
      exact qpost_all (by omega) (by omega) hf ht hpl hs
  · exact qpost_all (by omega) (by omega) hf ht hpl hs
@[go_sem] theorem l1Open_R (b : Str) : R S0 103 [.sl (b.map bytePV)] = some ⟨[none], .pto [.sl ((b.take 2000).map bytePV), .int .i64 0]⟩ := by
  by_cases h : 2000 < (b.length : Int)
  · have h2 : (2000 : Int) ≤ b.length := by omega
    have h3 : cut b 0 2000 = b.take 2000 := cut_take b 2000
    refine go103 rfl ?_; simp only [go_sem, ↓reduceIte, Nat.reduceAdd, Nat.reduceSub, Nat.reduceEqDiff, Nat.reduceLT, Nat.reduceLeDiff, Nat.reduceMul, Int.reduceNeg, Int.reduceToNat, Int.reduceEq, Int.reduceLT, Int.reduceLE, reduceCtorEq, Tryz.f103, h, h2, h3]
  · have h3 : b.take 2000 = b := List.take_of_length_le (by omega)
    refine go103 rfl ?_; simp only [go_sem, ↓reduceIte, Nat.reduceAdd, Nat.reduceSub, Nat.reduceEqDiff, Nat.reduceLT, Nat.reduceLeDiff, Nat.reduceMul, Int.reduceNeg, Int.reduceToNat, Int.reduceEq, Int.reduceLT, Int.reduceLE, reduceCtorEq, Tryz.f103, h, h3]
@[go_sem] theorem Field.re (f : Field) (off : Nat) (cs : List PV) : f.pv.reElem off cs = .agg (PV.putCells [.str f.name, .int .i64 f.kind, .int .i64 f.weight] off cs) := rfl
@[go_sem] theorem Field.setf (l : List Field) (i : Nat) (a : Str) (b c : Int) : (l.map Field.pv).set i (.agg [.str a, .int .i64 b, .int .i64 c]) = (l.set i (Field.mk a b c)).map Field.pv := by rw [List.map_set]; rfl
@[go_sem] theorem Query.reo (q : Query) (off : Nat) (cs : List PV) : q.pvo.reElem off cs = .agg (PV.putCells [.int .i64 q.kind, .str q.field, .str q.text, .int .i64 q.low, .int .i64 q.high, .slo 6 (q.parts.map pvo)] off cs) := by rw [pvo_eq]; rfl
@[go_sem] theorem Query.setp (l : List Query) (i : Nat) (a lo hi : Int) (b c : Str) (m : List Query) : (l.map pvo).set i (.agg [.int .i64 a, .str b, .str c, .int .i64 lo, .int .i64 hi, .slo 6 (m.map pvo)]) = (l.set i (Query.mk a b c lo hi m)).map pvo := by rw [List.map_set, pvo_eq]; rfl
@[go_sem] theorem set_get {α : Type} (l : List α) (i : Nat) (a : α) (h : i < l.length) : (l.set i a)[i]? = some a := List.getElem?_set_self h
attribute [go_sem] Query.eta
end Go.Proofs.YtmanllfmgghadaaGreatDoor.PVE
