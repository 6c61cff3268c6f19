/- Drawn documents. -/
import Derived.Test.YtgnggcpcijcahaaGreatDoorT4
import Derived.Test.YtgnggcpcijcahaaGreatDoorT15
set_option linter.unusedVariables false
set_option linter.unusedSimpArgs false
set_option maxRecDepth 100000
namespace Go.Proofs.YtgnggcpcijcahaaGreatDoor.PVE
open PV
theorem ofV_le {b : Str} {p k : Nat} {l : List Str} (hp : p ≤ 1099511627776) (hb : b.length ≤ 2000) (hl : 0 < l.length) (h : (l.all fun s => decide (s.length ≤ k)) = true) : (ofV b p l).length ≤ k := by
  have := (List.all_eq_true.1 h) _ (ofV_mem hp hb hl)
  simpa using this
def TPost (b : Str) (p c k : Nat) (r : Ans) : Prop := ∃ t : Str, ∃ p' : Nat, r = ⟨[some (.pto [.sl (b.map bytePV), .int .i64 (p' : Nat)])], .str t⟩ ∧ p ≤ p' ∧ p' ≤ p + c ∧ t.length ≤ k
noncomputable def wordV (b : Str) (p : Nat) : Str := ofV b p [[114, 101, 100], [82, 101, 100], [97, 112, 112, 108, 101], [97, 112, 112, 108, 101, 115], [112, 105, 101], [116, 104, 101], [111, 102], [103, 108, 97, 115, 115], [98, 117, 115], [116, 114, 101, 101], [116, 114, 101, 101, 115], [55], [118, 101, 114, 121, 108, 111, 110, 103, 119, 111, 114, 100, 105, 110, 100, 101, 101, 100], [97]]
theorem wordV_len {b : Str} {p : Nat} (hp : p ≤ 1099511627776) (hb : b.length ≤ 2000) : (wordV b p).length ≤ 18 := ofV_le hp hb (by decide) (by decide)
@[go_sem] theorem l11Word_R (b : Str) (p : Nat) (hp : p ≤ 1099511627776) (hb : b.length ≤ 2000) : R S0 88 [.pto [.sl (b.map bytePV), .int .i64 p]] = some ⟨[some (.pto [.sl (b.map bytePV), .int .i64 (p + 1 : Nat)])], .str (wordV b p)⟩ := by
  refine go88 rfl ?_; simp only [go_sem, ↓reduceIte, Nat.reduceAdd, Nat.reduceSub, Nat.reduceEqDiff, Nat.reduceLT, Nat.reduceLeDiff, Nat.reduceMul, Int.reduceNeg, Int.reduceToNat, Int.reduceEq, Int.reduceLT, Int.reduceLE, reduceCtorEq, Tryz.f88, hp, hb]
  rfl
theorem text_ex (b : Str) (p : Nat) (hp : p + 20 ≤ 1099511627776) (hb : b.length ≤ 2000) : ∃ r, R S0 202 [.pto [.sl (b.map bytePV), .int .i64 p]] = some r ∧ TPost b p 11 100 r := by
  have hm := more hp
  have hpk := pickV_in (p := p) (n := 6) (by omega) hb
  refine (fun ⟨r, h, hp⟩ => ⟨r, go202 rfl h, hp⟩ : (∃ r, Ends S0 _ _ r ∧ _) → _) ?_
  have e2 : pickV b p 6 = ((pickV b p 6).toNat : Int) := by omega
  have h6 : (pickV b p 6).toNat ≤ 5 := by omega
  simp only [go_sem, ↓reduceIte, Nat.reduceAdd, Nat.reduceSub, Nat.reduceEqDiff, Nat.reduceLT, Nat.reduceLeDiff, Nat.reduceMul, Int.reduceNeg, Int.reduceToNat, Int.reduceEq, Int.reduceLT, Int.reduceLE, reduceCtorEq, Tryz.f202, hm, hb, ex_if, ex_bool, ex_and, ex_eq]
  rw [e2]
  generalize (pickV b p 6).toNat = m0 at h6 ⊢
  refine ends_wx (fun x : Nat × Nat × Str => x.1) (fun x => mkSt [(0, .addr 0 0 0), (3, .str x.2.2), (4, .int .i64 (x.1 : Nat)), (1000000, .addr 0 0 0)] [.pto [.sl (b.map bytePV), .int .i64 (x.2.1 : Nat)]]) (fun x => x.1 ≤ 5 ∧ p ≤ x.2.1 ∧ x.2.1 + 2 * x.1 ≤ p + 11 ∧ x.2.2.length + 20 * x.1 ≤ 100) (m0, p + 1, []) ⟨h6, by simp only; omega, by simp only; omega, by simp only [List.length_nil]; omega⟩ ?_
  rintro ⟨n, p2, t⟩ ⟨k1, k2, k3, k4⟩ ihl
  simp only at k1 k2 k3 k4
  cases n with
  | zero =>
    have h0 : ¬ (0 : Int) < ((0 : Nat) : Int) := by omega
    simp only [go_sem, ↓reduceIte, Nat.reduceAdd, Nat.reduceSub, Nat.reduceEqDiff, Nat.reduceLT, Nat.reduceLeDiff, Nat.reduceMul, Int.reduceNeg, Int.reduceToNat, Int.reduceEq, Int.reduceLT, Int.reduceLE, reduceCtorEq, h0, ex_if, ex_bool, ex_and, ex_eq]
    exact ⟨t, p2, rfl, by omega, by omega, by omega⟩
  | succ m =>
    have h0 : (0 : Int) < ((m + 1 : Nat) : Int) := by omega
    have h3 : IntKind.i64.wrap (((m + 1 : Nat) : Int) - 1) = (m : Int) := by rw [wrap_in (by omega) (by omega)]; omega
    have hp2 : p2 ≤ 1099511627776 := by omega
    have hp3 : p2 + 1 ≤ 1099511627776 := by omega
    have hwl := wordV_len hp2 hb
    simp only [go_sem, ↓reduceIte, Nat.reduceAdd, Nat.reduceSub, Nat.reduceEqDiff, Nat.reduceLT, Nat.reduceLeDiff, Nat.reduceMul, Int.reduceNeg, Int.reduceToNat, Int.reduceEq, Int.reduceLT, Int.reduceLE, reduceCtorEq, h0, h3, hp2, hp3, hb, ex_if, ex_bool, ex_and, ex_eq]
    have hl2 := ofV_le (k := 2) (b := b) (p := p2 + 1) (l := [[32], [44, 32], [45], [32], [46]]) hp3 hb (by decide) (by decide)
    refine ⟨by omega, by omega, ihl (m, p2 + 1 + 1, t ++ (wordV b p2 ++ ofV b (p2 + 1) [[32], [44, 32], [45], [32], [46]])) (by simp only; omega) ⟨by simp only; omega, by simp only; omega, by simp only; omega, by simp only [List.length_append]; omega⟩⟩
def MPost (k : Nat) (r : Ans) : Prop := ∃ t : Str, r = ⟨[none, none], .str t⟩ ∧ t.length = k
theorem many_ex (s : Str) (n : Nat) (hs : 1 ≤ s.length) (hn : n * s.length ≤ 1000) : ∃ r, R S0 203 [.str s, .int .i64 n] = some r ∧ MPost (n * s.length) r := by
  refine (fun ⟨r, h, hp⟩ => ⟨r, go203 rfl h, hp⟩ : (∃ r, Ends S0 _ _ r ∧ _) → _) ?_
  simp only [go_sem, ↓reduceIte, Nat.reduceAdd, Nat.reduceSub, Nat.reduceEqDiff, Nat.reduceLT, Nat.reduceLeDiff, Nat.reduceMul, Int.reduceNeg, Int.reduceToNat, Int.reduceEq, Int.reduceLT, Int.reduceLE, reduceCtorEq, Tryz.f203, ex_if, ex_bool, ex_and, ex_eq]
  refine ends_wx (fun x : Nat × Str × Str => x.1) (fun x => mkSt [(0, .str x.2.1), (1, .int .i64 (x.1 : Nat)), (5, .str x.2.2)] []) (fun x => 1 ≤ x.2.1.length ∧ x.2.2.length + x.1 * x.2.1.length = n * s.length) (n, s, []) ⟨hs, by simp⟩ ?_
  rintro ⟨m, u, out⟩ ⟨k1, k2⟩ ihl
  simp only at k1 k2
  have hm : m ≤ 1000 := by
    have : m * 1 ≤ m * u.length := Nat.mul_le_mul_left _ k1
    omega
  cases m with
  | zero =>
    have h0 : ¬ (0 : Int) < ((0 : Nat) : Int) := by omega
    simp only [go_sem, ↓reduceIte, Nat.reduceAdd, Nat.reduceSub, Nat.reduceEqDiff, Nat.reduceLT, Nat.reduceLeDiff, Nat.reduceMul, Int.reduceNeg, Int.reduceToNat, Int.reduceEq, Int.reduceLT, Int.reduceLE, reduceCtorEq, h0, ex_if, ex_bool, ex_and, ex_eq]
    exact ⟨out, rfl, by omega⟩
  | succ m =>
    have h0 : (0 : Int) < ((m + 1 : Nat) : Int) := by omega
    have e1 : ((m + 1 : Nat) : Int).tmod 2 = (((m + 1) % 2 : Nat) : Int) := tmod_nat (m + 1) 2
    have e2 : ((m + 1 : Nat) : Int).tdiv 2 = (((m + 1) / 2 : Nat) : Int) := (Int.ofNat_tdiv (m + 1) 2).symm
    have e3 : IntKind.i64.wrap (((m + 1) / 2 : Nat) : Int) = (((m + 1) / 2 : Nat) : Int) := wrap_in (by omega) (by omega)
    have hq : (m + 1) * u.length = ((m + 1) % 2) * u.length + (m + 1) / 2 * (u.length + u.length) := by
      have h := Nat.mod_add_div (m + 1) 2
      have : (m + 1) / 2 * (u.length + u.length) = 2 * ((m + 1) / 2) * u.length := by rw [← Nat.two_mul, ← Nat.mul_assoc, Nat.mul_comm ((m + 1) / 2) 2]
      rw [this, ← Nat.add_mul, h]
    by_cases hd : (m + 1) % 2 = 1
    · have e4 : ((((m + 1) % 2 : Nat)) : Int) = 1 := by omega
      simp only [go_sem, ↓reduceIte, Nat.reduceAdd, Nat.reduceSub, Nat.reduceEqDiff, Nat.reduceLT, Nat.reduceLeDiff, Nat.reduceMul, Int.reduceNeg, Int.reduceToNat, Int.reduceEq, Int.reduceLT, Int.reduceLE, reduceCtorEq, h0, e1, e2, e3, e4, ex_if, ex_bool, ex_and, ex_eq]
      have hu : 1 * u.length ≤ (m + 1) * u.length := Nat.mul_le_mul_right _ (by omega)
      refine ⟨by omega, by omega, ihl ((m + 1) / 2, u ++ u, out ++ u) (by simp only; omega) ⟨by simp; omega, ?_⟩⟩
      rw [hd] at hq
      simp only [List.length_append]; omega
    · have e4 : ¬ ((((m + 1) % 2 : Nat)) : Int) = 1 := by omega
      simp only [go_sem, ↓reduceIte, Nat.reduceAdd, Nat.reduceSub, Nat.reduceEqDiff, Nat.reduceLT, Nat.reduceLeDiff, Nat.reduceMul, Int.reduceNeg, Int.reduceToNat, Int.reduceEq, Int.reduceLT, Int.reduceLE, reduceCtorEq, h0, e1, e2, e3, e4, ex_if, ex_bool, ex_and, ex_eq]
      have hu : 1 * u.length ≤ (m + 1) * u.length := Nat.mul_le_mul_right _ (by omega)
      refine ⟨by omega, ihl ((m + 1) / 2, u ++ u, out) (by simp only; omega) ⟨by simp; omega, ?_⟩⟩
      rw [show (m + 1) % 2 = 0 by omega] at hq
      simp only [List.length_append]; omega
theorem anyText_ex (b : Str) (p : Nat) (hp : p + 40 ≤ 1099511627776) (hb : b.length ≤ 2000) : ∃ r, R S0 155 [.pto [.sl (b.map bytePV), .int .i64 p]] = some r ∧ TPost b p 13 101 r := by
  have hm := more (p := p) (by omega)
  refine (fun ⟨r, h, hp⟩ => ⟨r, go155 rfl h, hp⟩ : (∃ r, Ends S0 _ _ r ∧ _) → _) ?_
  obtain ⟨r, hr, t, p', rfl, h1, h2, h3⟩ := text_ex b (p + 1) (by omega) hb
  have hp' : p' ≤ 1099511627776 := by omega
  have hpk := pickV_in (p := p + 1) (n := 2) (by omega) hb
  have e2 : IntKind.i64.wrap (60 + pickV b (p + 1) 2) = (((60 + pickV b (p + 1) 2).toNat : Nat) : Int) := by rw [wrap_in (by omega) (by omega)]; omega
  obtain ⟨r2, hu, u, rfl, hul⟩ := many_ex [120] (60 + pickV b (p + 1) 2).toNat (by decide) (by simp only [List.length_singleton]; omega)
  simp only [List.length_singleton] at hul
  by_cases c1 : pickV b p 14 = 0
  · simp only [go_sem, ↓reduceIte, Nat.reduceAdd, Nat.reduceSub, Nat.reduceEqDiff, Nat.reduceLT, Nat.reduceLeDiff, Nat.reduceMul, Int.reduceNeg, Int.reduceToNat, Int.reduceEq, Int.reduceLT, Int.reduceLE, reduceCtorEq, Tryz.f155, hm, hb, hr, hp', c1, e2, hu, ex_if, ex_bool, ex_and, ex_eq]
    exact ⟨u, p + 1 + 1, rfl, by omega, by omega, by omega⟩
  by_cases c2 : pickV b p 14 = 1
  · simp only [go_sem, ↓reduceIte, Nat.reduceAdd, Nat.reduceSub, Nat.reduceEqDiff, Nat.reduceLT, Nat.reduceLeDiff, Nat.reduceMul, Int.reduceNeg, Int.reduceToNat, Int.reduceEq, Int.reduceLT, Int.reduceLE, reduceCtorEq, Tryz.f155, hm, hb, hr, hp', c1, c2, ex_if, ex_bool, ex_and, ex_eq]
    have hl2 := ofV_le (k := 1) (b := b) (p := p') (l := [[10], [1], [127]]) hp' hb (by decide) (by decide)
    exact ⟨by omega, t ++ ofV b p' [[10], [1], [127]], p' + 1, rfl, by omega, by omega, by rw [List.length_append]; omega⟩
  · simp only [go_sem, ↓reduceIte, Nat.reduceAdd, Nat.reduceSub, Nat.reduceEqDiff, Nat.reduceLT, Nat.reduceLeDiff, Nat.reduceMul, Int.reduceNeg, Int.reduceToNat, Int.reduceEq, Int.reduceLT, Int.reduceLE, reduceCtorEq, Tryz.f155, hm, hb, hr, hp', c1, c2, ex_if, ex_bool, ex_and, ex_eq]
    exact ⟨t, p', rfl, by omega, by omega, by omega⟩
def DSt (k : Nat) (d : Doc) : Prop := d.key.length ≤ 1000 ∧ d.cells.length ≤ k ∧ ∀ c ∈ d.cells, c.name.length ≤ 1000 ∧ c.text.length ≤ 1000
theorem DSt.sm {k : Nat} {d : Doc} (hk : k ≤ 1000) (h : DSt k d) : DSm d := ⟨by have := h.1; omega, by have := h.2.1; omega, fun c hc => by have := h.2.2 c hc; omega⟩
def DocPost (b : Str) (p c k : Nat) (r : Ans) : Prop := ∃ d : Doc, ∃ p' : Nat, r = ⟨[some (.pto [.sl (b.map bytePV), .int .i64 (p' : Nat)]), none], .agg [.str d.key, .slo 2 (d.cells.map Cell.pv)]⟩ ∧ p ≤ p' ∧ p' ≤ p + c ∧ DSt k d
def names4 : List Str := [[98, 111, 100, 121], [99, 111, 108, 111, 114], [112, 114, 105, 99, 101], [116, 105, 116, 108, 101]]
theorem csnoc {l : List Cell} {n t : Str} {k : Nat} (hl : l.length ≤ k) (hk : k + 1 ≤ 1000) (h : ∀ c ∈ l, c.name.length ≤ 1000 ∧ c.text.length ≤ 1000) (hn : n.length ≤ 1000) (ht : t.length ≤ 1000) : (l ++ [Cell.mk n t]).length ≤ k + 1 ∧ ∀ c ∈ l ++ [Cell.mk n t], c.name.length ≤ 1000 ∧ c.text.length ≤ 1000 := by
  refine ⟨by simp; omega, fun c hc => ?_⟩
  rcases List.mem_append.1 hc with hc | hc
  · exact h c hc
  · simp at hc; subst hc; exact ⟨hn, ht⟩
theorem doc_ex (l : List Field) (hl : FSm l) (b : Str) (p : Nat) (hp : p + 100 ≤ 1099511627776) (hb : b.length ≤ 2000) : ∃ r, R S0 151 [.pto [.sl (b.map bytePV), .int .i64 p], .sl (l.map Field.pv)] = some r ∧ DocPost b p 60 4 r := by
  obtain ⟨hll, _⟩ := id hl
  have hm := more (p := p) (by omega)
  refine (fun ⟨r, h, hp⟩ => ⟨r, go151 rfl h, hp⟩ : (∃ r, Ends S0 _ _ r ∧ _) → _) ?_
  have hkl := ofV_le (k := 1000) (b := b) (p := p) (l := [[97], [98], [99], [100], [101], [107, 57]]) (by omega) hb (by decide) (by decide)
  simp only [go_sem, ↓reduceIte, Nat.reduceAdd, Nat.reduceSub, Nat.reduceEqDiff, Nat.reduceLT, Nat.reduceLeDiff, Nat.reduceMul, Int.reduceNeg, Int.reduceToNat, Int.reduceEq, Int.reduceLT, Int.reduceLE, reduceCtorEq, Tryz.f151, hm, hb, ex_if, ex_bool, ex_and, ex_eq]
  generalize ofV b p _ = key at hkl ⊢
  refine ends_wx (fun x : Nat × Nat × List Cell => 4 - x.1) (fun x => mkSt [(0, .addr 0 0 0), (1, .sl (l.map Field.pv)), (4, .addr 1 0 0), (5, .addr 2 0 0), (6, .own 3), (7, .int .i64 (x.1 : Nat)), (1000000, .addr 0 0 0)] [.pto [.sl (b.map bytePV), .int .i64 (x.2.1 : Nat)], .pto [.str [], .slo 2 []], .pto [.str key, .slo 2 (x.2.2.map Cell.pv)], .slo 1 (names4.map .str)]) (fun x => x.1 ≤ 4 ∧ p + 1 ≤ x.2.1 ∧ x.2.1 ≤ p + 1 + 13 * x.1 ∧ x.2.2.length ≤ x.1 ∧ ∀ c ∈ x.2.2, c.name.length ≤ 1000 ∧ c.text.length ≤ 1000) (0, p + 1, []) ⟨by omega, by simp only; omega, by simp only; omega, by simp, by simp⟩ ?_
  rintro ⟨i, p2, cs⟩ ⟨k1, k2, k3, k4, k5⟩ ihl
  simp only at k1 k2 k3 k4 k5
  by_cases hi : i < 4
  · obtain ⟨nm, hx, hg, hd⟩ := drop_get (l := names4) hi default
    have hnl : nm.length ≤ 1000 := by
      have h : ∀ s ∈ names4, s.length ≤ 1000 := by decide
      exact h nm (List.mem_of_getElem? hx)
    have hnb : nm.length ≤ 1099511627776 := by omega
    have h0 : (i : Int) < (names4.length : Int) := by show (i : Int) < 4; omega
    have h0' : i < names4.length := by show i < 4; omega
    have h3 : IntKind.i64.wrap ((i : Int) + 1) = ((i + 1 : Nat) : Int) := by rw [wrap_in (by omega) (by omega)]; omega
    have hm2 := more (p := p2) (by omega)
    rcases fieldIx_cases l nm with ⟨f1, f2, f3⟩ | ⟨f1, f2, f3, f4⟩
    · simp only [go_sem, ↓reduceIte, Nat.reduceAdd, Nat.reduceSub, Nat.reduceEqDiff, Nat.reduceLT, Nat.reduceLeDiff, Nat.reduceMul, Int.reduceNeg, Int.reduceToNat, Int.reduceEq, Int.reduceLT, Int.reduceLE, reduceCtorEq, h0, h0', h3, hx, hg, hm2, hll, hnb, hb, f1, ex_if, ex_bool, ex_and, ex_eq]
      exact ihl (i + 1, p2, cs) (by simp only; omega) ⟨by simp only; omega, by simp only; omega, by simp only; omega, by simp only; omega, k5⟩
    have f5 : ¬ fieldIx l nm < 0 := by omega
    have f6 : fieldIx l nm < (l.length : Int) := by omega
    by_cases hk : pickV b p2 4 = 0
    · simp only [go_sem, ↓reduceIte, Nat.reduceAdd, Nat.reduceSub, Nat.reduceEqDiff, Nat.reduceLT, Nat.reduceLeDiff, Nat.reduceMul, Int.reduceNeg, Int.reduceToNat, Int.reduceEq, Int.reduceLT, Int.reduceLE, reduceCtorEq, h0, h0', h3, hx, hg, hm2, hll, hnb, hb, f1, f2, f4, f5, f6, hk, ex_if, ex_bool, ex_and, ex_eq]
      exact ihl (i + 1, p2 + 1, cs) (by simp only; omega) ⟨by simp only; omega, by simp only; omega, by simp only; omega, by simp only; omega, k5⟩
    obtain ⟨r, hr, t, p3, rfl, j1, j2, j3⟩ := text_ex b (p2 + 1) (by omega) hb
    have hp3 : p3 ≤ 1099511627776 := by omega
    have hcl : (cs.length + 1) * 32 ≤ 140737488355328 := by omega
    by_cases hk2 : (fieldOf l nm).kind = 2
    · simp only [go_sem, ↓reduceIte, Nat.reduceAdd, Nat.reduceSub, Nat.reduceEqDiff, Nat.reduceLT, Nat.reduceLeDiff, Nat.reduceMul, Int.reduceNeg, Int.reduceToNat, Int.reduceEq, Int.reduceLT, Int.reduceLE, reduceCtorEq, h0, h0', h3, hx, hg, hm2, hll, hnb, hb, f1, f2, f4, f5, f6, hk, hr, hp3, hk2, hcl, ex_if, ex_bool, ex_and, ex_eq]
      have hc := csnoc (n := nm) (t := ofV b p3 [[48], [53], [55], [45, 51], [49, 50], [57, 57, 57, 57, 57, 57, 57, 57, 57]]) k4 (by omega) k5 hnl (ofV_le hp3 hb (by decide) (by decide))
      exact ⟨by decide +kernel, ihl (i + 1, p3 + 1, cs ++ [Cell.mk nm (ofV b p3 [[48], [53], [55], [45, 51], [49, 50], [57, 57, 57, 57, 57, 57, 57, 57, 57]])]) (by simp only; omega) ⟨by simp only; omega, by simp only; omega, by simp only; omega, hc.1, hc.2⟩⟩
    by_cases hk3 : (fieldOf l nm).kind = 3
    · simp only [go_sem, ↓reduceIte, Nat.reduceAdd, Nat.reduceSub, Nat.reduceEqDiff, Nat.reduceLT, Nat.reduceLeDiff, Nat.reduceMul, Int.reduceNeg, Int.reduceToNat, Int.reduceEq, Int.reduceLT, Int.reduceLE, reduceCtorEq, h0, h0', h3, hx, hg, hm2, hll, hnb, hb, f1, f2, f4, f5, f6, hk, hr, hp3, hk2, hk3, hcl, ex_if, ex_bool, ex_and, ex_eq]
      have hc := csnoc (n := nm) (t := ofV b p3 [[114, 101, 100], [98, 108, 117, 101], [114, 101, 100, 44, 98, 108, 117, 101], [98, 108, 117, 101, 44, 114, 101, 100, 44, 114, 101, 100], [103, 114, 101, 101, 110]]) k4 (by omega) k5 hnl (ofV_le hp3 hb (by decide) (by decide))
      exact ⟨by decide +kernel, ihl (i + 1, p3 + 1, cs ++ [Cell.mk nm (ofV b p3 [[114, 101, 100], [98, 108, 117, 101], [114, 101, 100, 44, 98, 108, 117, 101], [98, 108, 117, 101, 44, 114, 101, 100, 44, 114, 101, 100], [103, 114, 101, 101, 110]])]) (by simp only; omega) ⟨by simp only; omega, by simp only; omega, by simp only; omega, hc.1, hc.2⟩⟩
    · simp only [go_sem, ↓reduceIte, Nat.reduceAdd, Nat.reduceSub, Nat.reduceEqDiff, Nat.reduceLT, Nat.reduceLeDiff, Nat.reduceMul, Int.reduceNeg, Int.reduceToNat, Int.reduceEq, Int.reduceLT, Int.reduceLE, reduceCtorEq, h0, h0', h3, hx, hg, hm2, hll, hnb, hb, f1, f2, f4, f5, f6, hk, hr, hp3, hk2, hk3, hcl, ex_if, ex_bool, ex_and, ex_eq]
      have hc := csnoc (n := nm) (t := t) k4 (by omega) k5 hnl (by omega)
      exact ⟨by decide +kernel, ihl (i + 1, p3, cs ++ [Cell.mk nm (t)]) (by simp only; omega) ⟨by simp only; omega, by simp only; omega, by simp only; omega, hc.1, hc.2⟩⟩
  · have h0 : ¬ (i : Int) < (names4.length : Int) := by show ¬ (i : Int) < 4; omega
    simp only [go_sem, ↓reduceIte, Nat.reduceAdd, Nat.reduceSub, Nat.reduceEqDiff, Nat.reduceLT, Nat.reduceLeDiff, Nat.reduceMul, Int.reduceNeg, Int.reduceToNat, Int.reduceEq, Int.reduceLT, Int.reduceLE, reduceCtorEq, h0, ex_if, ex_bool, ex_and, ex_eq]
    exact ⟨⟨key, cs⟩, p2, rfl, by omega, by omega, hkl, by show cs.length ≤ 4; omega, k5⟩
theorem anyDoc_ex (l : List Field) (hl : FSm l) (b : Str) (p : Nat) (hp : p + 200 ≤ 1099511627776) (hb : b.length ≤ 2000) : ∃ r, R S0 107 [.pto [.sl (b.map bytePV), .int .i64 p], .sl (l.map Field.pv)] = some r ∧ DocPost b p 90 5 r := by
  obtain ⟨r, hr, d, p1, rfl, h1, h2, hk, hcl, hcs⟩ := doc_ex l hl b p (by omega) hb
  have hm := more (p := p1) (by omega)
  obtain ⟨r2, hr2, t, p2, rfl, j1, j2, j3⟩ := anyText_ex b (p1 + 1 + 1) (by omega) hb
  have hcl2 : (d.cells.length + 1) * 32 ≤ 140737488355328 := by omega
  refine (fun ⟨r, h, hp⟩ => ⟨r, go107 rfl h, hp⟩ : (∃ r, Ends S0 _ _ r ∧ _) → _) ?_
  by_cases c1 : pickV b p1 14 = 0
  · simp only [go_sem, ↓reduceIte, Nat.reduceAdd, Nat.reduceSub, Nat.reduceEqDiff, Nat.reduceLT, Nat.reduceLeDiff, Nat.reduceMul, Int.reduceNeg, Int.reduceToNat, Int.reduceEq, Int.reduceLT, Int.reduceLE, reduceCtorEq, Tryz.f107, hm, hb, hr, c1, ex_if, ex_bool, ex_and, ex_eq]
    exact ⟨⟨ofV b (p1 + 1) [[], [65], [110, 105, 110, 101, 108, 101, 116, 116, 101]], d.cells⟩, p1 + 1 + 1, rfl, by omega, by omega, ofV_le (by omega) hb (by decide) (by decide), by show d.cells.length ≤ 5; omega, hcs⟩
  by_cases c2 : pickV b p1 14 = 1
  · simp only [go_sem, ↓reduceIte, Nat.reduceAdd, Nat.reduceSub, Nat.reduceEqDiff, Nat.reduceLT, Nat.reduceLeDiff, Nat.reduceMul, Int.reduceNeg, Int.reduceToNat, Int.reduceEq, Int.reduceLT, Int.reduceLE, reduceCtorEq, Tryz.f107, hm, hb, hr, hr2, c1, c2, hcl2, ex_if, ex_bool, ex_and, ex_eq]
    have hc := csnoc (n := ofV b (p1 + 1) [[122, 122], [98, 111, 100, 121], []]) (t := t) hcl (by omega) hcs (ofV_le (by omega) hb (by decide) (by decide)) (by omega)
    exact ⟨by decide +kernel, ⟨d.key, d.cells ++ [Cell.mk (ofV b (p1 + 1) [[122, 122], [98, 111, 100, 121], []]) t]⟩, p2, rfl, by omega, by omega, hk, hc.1, hc.2⟩
  by_cases c3 : pickV b p1 14 = 2
  · by_cases c4 : 0 < d.cells.length
    · have hpk := pickV_in (p := p1 + 1) (n := d.cells.length) (by omega) hb
      have c5 : (pickV b (p1 + 1) d.cells.length).toNat < d.cells.length := by omega
      have c6 : (0 : Int) < (d.cells.length : Int) := by omega
      have c7 : 0 ≤ pickV b (p1 + 1) d.cells.length := hpk.1
      have c8 : pickV b (p1 + 1) d.cells.length < d.cells.length := by omega
      have c9 := List.getElem?_eq_getElem c5
      simp only [go_sem, ↓reduceIte, Nat.reduceAdd, Nat.reduceSub, Nat.reduceEqDiff, Nat.reduceLT, Nat.reduceLeDiff, Nat.reduceMul, Int.reduceNeg, Int.reduceToNat, Int.reduceEq, Int.reduceLT, Int.reduceLE, reduceCtorEq, Tryz.f107, hm, hb, hr, c1, c2, c3, c4, c5, c6, c7, c8, c9, ex_if, ex_bool, ex_and, ex_eq]
      refine ⟨by decide +kernel, ⟨d.key, d.cells.set (pickV b (p1 + 1) d.cells.length).toNat ⟨(d.cells[(pickV b (p1 + 1) d.cells.length).toNat]).name, ofV b (p1 + 1 + 1) [[48, 49], [], [120, 44], [45, 48], [114, 101, 100, 44, 44, 98, 108, 117, 101], [97, 44, 98, 44, 99, 44, 100, 44, 101], [119, 111, 114, 100, 115, 32, 104, 101, 114, 101]]⟩⟩, p1 + 1 + 1 + 1, rfl, by omega, by omega, hk, by simp; omega, fun c hc => ?_⟩
      rcases List.mem_or_eq_of_mem_set hc with hc | rfl
      · exact hcs c hc
      · exact ⟨(hcs _ (List.getElem_mem c5)).1, ofV_le (by omega) hb (by decide) (by decide)⟩
    · have c6 : ¬ (0 : Int) < (d.cells.length : Int) := by omega
      simp only [go_sem, ↓reduceIte, Nat.reduceAdd, Nat.reduceSub, Nat.reduceEqDiff, Nat.reduceLT, Nat.reduceLeDiff, Nat.reduceMul, Int.reduceNeg, Int.reduceToNat, Int.reduceEq, Int.reduceLT, Int.reduceLE, reduceCtorEq, Tryz.f107, hm, hb, hr, c1, c2, c3, c6, ex_if, ex_bool, ex_and, ex_eq]
      exact ⟨d, p1 + 1, rfl, by omega, by omega, hk, by omega, hcs⟩
  · simp only [go_sem, ↓reduceIte, Nat.reduceAdd, Nat.reduceSub, Nat.reduceEqDiff, Nat.reduceLT, Nat.reduceLeDiff, Nat.reduceMul, Int.reduceNeg, Int.reduceToNat, Int.reduceEq, Int.reduceLT, Int.reduceLE, reduceCtorEq, Tryz.f107, hm, hb, hr, c1, c2, c3, ex_if, ex_bool, ex_and, ex_eq]
    exact ⟨d, p1 + 1, rfl, by omega, by omega, hk, by omega, hcs⟩
end Go.Proofs.YtgnggcpcijcahaaGreatDoor.PVE
