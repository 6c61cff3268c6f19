/- Drawn indexes. -/
import Derived.Test.YtjagjfjhinlgiaaGreatDoorT25
set_option linter.unusedVariables false
set_option linter.unusedSimpArgs false
set_option maxRecDepth 100000
namespace Go.Proofs.YtjagjfjhinlgiaaGreatDoor.PVE
open PV
@[go_sem] theorem l1Dec_small (u : Nat) (h : u < 10) : R S0 126 [.int .i64 u] = some ⟨[none], .str [UInt8.ofNat (48 + u)]⟩ := by
  have h1 : ¬ (u : Int) < -9223372036854775807 := by omega
  have h2 : ¬ (u : Int) < 0 := by omega
  have h3 : (u : Int) < 10 := by omega
  have e : IntKind.u8.wrap (IntKind.i64.wrap (48 + (u : Int))) = ((48 + u : Nat) : Int) := by rw [wrap_in (by omega) (by omega), IntKind.wrap_u8]; omega
  refine go126 rfl ?_; simp only [go_sem, ↓reduceIte, Nat.reduceAdd, Nat.reduceSub, Nat.reduceEqDiff, Nat.reduceLT, Nat.reduceLeDiff, Nat.reduceMul, Int.reduceNeg, Int.reduceToNat, Int.reduceEq, Int.reduceLT, Int.reduceLE, reduceCtorEq, Tryz.f126, h1, h2, h3, e]
  exact ⟨rfl, rfl⟩
/-- A row as it lies in a list that is built: its cells still owned, or only read. -/
def rowB (x : Bool × DRow) : PV := if x.1 = true then x.2.pv else x.2.pvF
def rowF (x : Bool × DRow) : PV := x.2.pvF
theorem rowB_cases (x : Bool × DRow) : rowB x = x.2.pv ∨ rowB x = x.2.pvF := by
  obtain ⟨b, r⟩ := x
  cases b
  · exact .inr rfl
  · exact .inl rfl
instance : Enc rowB 3 := ⟨fun x => by rcases rowB_cases x with h | h <;> rw [h] <;> exact Enc.free _, fun x => by rcases rowB_cases x with h | h <;> rw [h] <;> exact Enc.okr _, fun x => by rcases rowB_cases x with h | h <;> rw [h] <;> rfl⟩
instance : EncS rowB rowF := ⟨fun x => by rcases rowB_cases x with h | h <;> rw [h] <;> exact EncS.strip _⟩
@[go_sem] theorem rowF_map (l : List (Bool × DRow)) : l.map rowF = (l.map (fun x => x.2)).map DRow.pvF := by rw [List.map_map]; rfl
@[go_sem] theorem rowB_snoc (l : List DRow) (i : Int) (k : Str) (cs : List Cell) : l.map DRow.pvF ++ [.agg [.int .i64 i, .str k, .slo 2 (cs.map Cell.pv)]] = (l.map (fun r => (false, r)) ++ [(true, DRow.mk i (Doc.mk k cs))]).map rowB := by
  rw [List.map_append, List.map_map]; rfl
@[go_sem] theorem rowB_snoc0 (l : List (Bool × DRow)) (i : Int) (k : Str) : l.map rowB ++ [.agg [.int .i64 i, .str k, .slo 2 []]] = (l ++ [(true, DRow.mk i (Doc.mk k []))]).map rowB := by
  rw [List.map_append]; rfl
theorem snd_snoc (l : List DRow) (x : Bool × DRow) : (l.map (fun r => (false, r)) ++ [x]).map (fun x => x.2) = l ++ [x.2] := by rw [List.map_append, List.map_map]; simp [Function.comp_def]
def RowsS (n k : Nat) (rows : List DRow) : Prop := rows.length ≤ n ∧ ∀ r ∈ rows, DSt k r.doc
theorem RowsS.st {n k : Nat} {rows : List DRow} (h : RowsS n k rows) (hn : n ≤ 1000) (hk : k ≤ 1000) : RowsSt rows := ⟨Nat.le_trans h.1 hn, fun r hr => ⟨(h.2 r hr).1, Nat.le_trans (h.2 r hr).2.1 hk, (h.2 r hr).2.2⟩⟩
def IxPost (b : Str) (p c : Nat) (r : Ans) : Prop := ∃ fl : List Field, ∃ rows : List DRow, ∃ nx : Int, ∃ p' : Nat, r = ⟨[some (.pto [.sl (b.map bytePV), .int .i64 (p' : Nat)])], .agg [.slo 3 (fl.map Field.pv), .slo 3 (rows.map DRow.pv), .slo 3 ((madeE fl rows).map Entry.pv), .int .i64 nx]⟩ ∧ p ≤ p' ∧ p' ≤ p + c ∧ FSm fl ∧ RowsS 20 4 rows ∧ 0 ≤ nx ∧ nx ≤ 100
theorem fieldsF_FSm (b : Str) (p : Nat) : FSm (fieldsF b p) := ⟨by have := fieldsF_len b p; omega, fun f hf => by have := fieldsF_sm b p f hf; omega⟩
theorem index_ex (b : Str) (p : Nat) (hp : p + 1000 ≤ 1099511627776) (hb : b.length ≤ 2000) : ∃ r, R S0 82 [.pto [.sl (b.map bytePV), .int .i64 p]] = some r ∧ IxPost b p 400 r := by
  have hm := more (p := p) (by omega)
  have hfl := fieldsF_FSm b p
  obtain ⟨hfl1, _⟩ := id hfl
  have hp1 : p ≤ 1099511627776 := by omega
  have hp2 : p + 1 ≤ 1099511627776 := by omega
  have hp3 : p + 1 + 1 ≤ 1099511627776 := by omega
  have hk2 := pickV_in (p := p + 1) (n := 2) (by omega) hb
  have hk6 := pickV_in (p := p + 1 + 1) (n := 6) (by omega) hb
  refine (fun ⟨r, h, hp⟩ => ⟨r, go82 rfl h, hp⟩ : (∃ r, Ends S0 _ _ r ∧ _) → _) ?_
  have e6 : pickV b (p + 1 + 1) 6 = ((pickV b (p + 1 + 1) 6).toNat : Int) := by omega
  have h6 : (pickV b (p + 1 + 1) 6).toNat ≤ 5 := by omega
  simp only [go_sem, ↓reduceIte, Nat.reduceAdd, Nat.reduceSub, Nat.reduceEqDiff, Nat.reduceLT, Nat.reduceLeDiff, Nat.reduceMul, Int.reduceNeg, Int.reduceToNat, Int.reduceEq, Int.reduceLT, Int.reduceLE, reduceCtorEq, Tryz.f82, hm, hb, hp1, hp2, hp3, ex_if, ex_bool, ex_and, ex_eq]
  rw [e6]
  generalize (pickV b (p + 1 + 1) 6).toNat = m0 at h6 ⊢
  generalize hid : pickV b (p + 1) 2 = id0 at hk2 ⊢
  refine ends_wx (fun x : Nat × Nat × Int × List (Bool × DRow) => x.1) (fun x => mkSt [(0, .addr 0 0 0), (2, .addr 1 0 0), (3, .sl ((fieldsF b p).map Field.pv)), (4, .own 2), (5, .int .i64 x.2.2.1), (6, .int .i64 (x.1 : Nat)), (1000000, .addr 0 0 0)] [.pto [.sl (b.map bytePV), .int .i64 (x.2.1 : Nat)], .pto [.slo 3 [], .slo 3 [], .slo 3 [], .int .i64 0], .slo 3 (x.2.2.2.map rowB)])
    (fun x => x.1 ≤ 5 ∧ p + 3 ≤ x.2.1 ∧ x.2.1 + 61 * x.1 ≤ p + 308 ∧ 0 ≤ x.2.2.1 ∧ x.2.2.1 + 2 * (x.1 : Int) ≤ 11 ∧ RowsS (5 - x.1) 4 (x.2.2.2.map (·.2))) (m0, p + 1 + 1 + 1, id0, []) ⟨h6, by simp only; omega, by simp only; omega, by simp only; omega, by simp only; omega, by simp [RowsS]⟩ ?_
  rintro ⟨n, p2, id, rows⟩ ⟨k1, k2, k3, k4, k5, k6⟩ ihl
  simp only at k1 k2 k3 k4 k5 k6
  have k6c := k6
  obtain ⟨k6a, k6b⟩ := k6c
  cases n with
  | succ n =>
    have h0 : (0 : Int) < ((n + 1 : Nat) : Int) := by omega
    have h3 : IntKind.i64.wrap (((n + 1 : Nat) : Int) - 1) = (n : Int) := by rw [wrap_in (by omega) (by omega)]; omega
    obtain ⟨r, hr, d, p3, rfl, j1, j2, jd⟩ := doc_ex (fieldsF b p) hfl b p2 (by omega) hb
    have hp3' : p3 ≤ 1099511627776 := by omega
    have hk3 := pickV_in (p := p3) (n := 2) (by omega) hb
    have hrl : rows.length ≤ 1099511627776 := by rw [List.length_map] at k6a; omega
    have hlk : (lessKey (rows.map (fun x => x.2)) d.key).length ≤ 5 - (n + 1) := Nat.le_trans (List.length_filter_le _ _) k6a
    have hi1 : IntKind.i64.wrap (id + 1) = id + 1 := wrap_in (by omega) (by omega)
    have hi2 : IntKind.i64.wrap (id + 1 + pickV b p3 2) = id + 1 + pickV b p3 2 := wrap_in (by omega) (by omega)
    simp only [go_sem, ↓reduceIte, Nat.reduceAdd, Nat.reduceSub, Nat.reduceEqDiff, Nat.reduceLT, Nat.reduceLeDiff, Nat.reduceMul, Int.reduceNeg, Int.reduceToNat, Int.reduceEq, Int.reduceLT, Int.reduceLE, reduceCtorEq, h0, h3, hr, hp3', hb, hrl, hi1, hi2, ex_if, ex_bool, ex_and, ex_eq]
    refine ⟨by omega, by decide +kernel, ihl (n, p3 + 1, id + 1 + pickV b p3 2, _) (by simp only; omega) ⟨by simp only; omega, by simp only; omega, by simp only; omega, by simp only; omega, by simp only; omega, ?_⟩⟩
    simp only
    rw [snd_snoc]
    refine ⟨by rw [List.length_append, List.length_singleton]; omega, fun r hr => ?_⟩
    rcases List.mem_append.1 hr with hr | hr
    · exact k6b r ((List.mem_filter.1 hr).1)
    · simp at hr; subst hr; exact jd
  | zero =>
    have h0 : ¬ (0 : Int) < ((0 : Nat) : Int) := by omega
    have hm2 := more (p := p2) (by omega)
    have hrl : rows.length ≤ 5 := by rw [List.length_map] at k6a; omega
    have hrb : rows.length ≤ 1099511627776 := by omega
    have hst : RowsSt (rows.map (fun x => x.2)) := k6.st (by omega) (by omega)
    have hS20 : RowsS 20 4 (rows.map (fun x => x.2)) := ⟨by omega, k6b⟩
    by_cases c : pickV b p2 30 = 0
    · simp only [go_sem, ↓reduceIte, Nat.reduceAdd, Nat.reduceSub, Nat.reduceEqDiff, Nat.reduceLT, Nat.reduceLeDiff, Nat.reduceMul, Int.reduceNeg, Int.reduceToNat, Int.reduceEq, Int.reduceLT, Int.reduceLE, reduceCtorEq, h0, hm2, hb, c, ex_if, ex_bool, ex_and, ex_eq]
      refine ends_wx (fun x : Nat × Int × List (Bool × DRow) => 8 - x.1) (fun x => mkSt [(2, .addr 0 0 0), (3, .sl ((fieldsF b p).map Field.pv)), (4, .own 1), (5, .int .i64 x.2.1), (8, .int .i64 (x.1 : Nat)), (1000000, .addr 2 0 0)] [.pto [.slo 3 [], .slo 3 [], .slo 3 [], .int .i64 0], .slo 3 (x.2.2.map rowB), .pto [.sl (b.map bytePV), .int .i64 (p2 + 1 : Nat)]])
        (fun x => x.1 ≤ 8 ∧ 0 ≤ x.2.1 ∧ x.2.1 ≤ 11 + (x.1 : Int) ∧ RowsS x.1 4 (x.2.2.map (·.2))) (rows.length, id, rows) ⟨by simp only; omega, k4, by simp only; omega, by simp [RowsS], k6b⟩ ?_
      rintro ⟨m, id2, rows2⟩ ⟨l1, l2, l3, l4⟩ ihm
      simp only at l1 l2 l3 l4
      have l4c := l4
      obtain ⟨l4a, l4b⟩ := l4c
      by_cases hm8 : m < 8
      · have g1 : (m : Int) < 8 := by omega
        have g2 : IntKind.i64.wrap ((m : Int) + 1) = ((m + 1 : Nat) : Int) := by rw [wrap_in (by omega) (by omega)]; omega
        have g3 : IntKind.i64.wrap (id2 + 1) = id2 + 1 := wrap_in (by omega) (by omega)
        have g4 : m < 10 := by omega
        have g5 : rows2.length ≤ m := by rw [List.length_map] at l4a; exact l4a
        simp only [go_sem, ↓reduceIte, Nat.reduceAdd, Nat.reduceSub, Nat.reduceEqDiff, Nat.reduceLT, Nat.reduceLeDiff, Nat.reduceMul, Int.reduceNeg, Int.reduceToNat, Int.reduceEq, Int.reduceLT, Int.reduceLE, reduceCtorEq, g1, g2, g3, g4, ex_if, ex_bool, ex_and, ex_eq]
        refine ⟨by omega, ihm (m + 1, id2 + 1, _) (by simp only; omega) ⟨by simp only; omega, by simp only; omega, by simp only; omega, ?_⟩⟩
        simp only [List.map_append, List.map_cons, List.map_nil]
        refine ⟨by rw [List.length_append, List.length_singleton]; omega, fun r hr => ?_⟩
        rcases List.mem_append.1 hr with hr | hr
        · exact l4b r hr
        · simp at hr; subst hr; exact ⟨by simp, by simp, by simp⟩
      · have g1 : ¬ (m : Int) < 8 := by omega
        have hst2 : RowsSt (rows2.map (fun x => x.2)) := l4.st (by omega) (by omega)
        have hS202 : RowsS 20 4 (rows2.map (fun x => x.2)) := ⟨by omega, l4b⟩
        simp only [go_sem, ↓reduceIte, Nat.reduceAdd, Nat.reduceSub, Nat.reduceEqDiff, Nat.reduceLT, Nat.reduceLeDiff, Nat.reduceMul, Int.reduceNeg, Int.reduceToNat, Int.reduceEq, Int.reduceLT, Int.reduceLE, reduceCtorEq, g1, hfl1, hst2, ex_if, ex_bool, ex_and, ex_eq]
        exact ⟨_, _, _, _, rfl, by omega, by omega, hfl, hS202, l2, by omega⟩
    · simp only [go_sem, ↓reduceIte, Nat.reduceAdd, Nat.reduceSub, Nat.reduceEqDiff, Nat.reduceLT, Nat.reduceLeDiff, Nat.reduceMul, Int.reduceNeg, Int.reduceToNat, Int.reduceEq, Int.reduceLT, Int.reduceLE, reduceCtorEq, h0, hm2, hb, c, hfl1, hst, ex_if, ex_bool, ex_and, ex_eq]
      exact ⟨_, _, _, _, rfl, by omega, by omega, hfl, hS20, k4, by omega⟩
theorem EntB.sm {n : Nat} {l : List Entry} (h : EntB n l) (hn : n ≤ 1099511627776) : EntSm l := ⟨Nat.le_trans h.1 hn, fun e he => ⟨Nat.le_trans (h.2 e he).2.1 hn, fun p hp => Nat.le_trans ((h.2 e he).2.2 p hp) hn⟩⟩
theorem made_sm (fl : List Field) {rows : List DRow} (h : RowsSt rows) : EntSm (madeE fl rows) := (EntB.made fl h rows.length (Nat.le_refl _)).sm (by have := h.1; omega)
theorem EntSm.sub {l m : List Entry} (h : EntSm l) (hs : m.Sublist l) : EntSm m := ⟨Nat.le_trans hs.length_le h.1, fun e he => h.2 e (hs.subset he)⟩
def AixPost (b : Str) (p c : Nat) (r : Ans) : Prop := ∃ fl : List Field, ∃ rows : List DRow, ∃ ents : List Entry, ∃ nx : Int, ∃ p' : Nat, r = ⟨[some (.pto [.sl (b.map bytePV), .int .i64 (p' : Nat)])], .agg [.sl (fl.map Field.pv), .sl (rows.map DRow.pvF), .sl (ents.map Entry.pvF), .int .i64 nx]⟩ ∧ p ≤ p' ∧ p' ≤ p + c ∧ FSm fl ∧ RowsS 21 5 rows ∧ EntSm ents ∧ -1 ≤ nx ∧ nx ≤ 999999999
theorem anyIndex_ex (b : Str) (p : Nat) (hp : p + 2000 ≤ 1099511627776) (hb : b.length ≤ 2000) : ∃ r, R S0 40 [.pto [.sl (b.map bytePV), .int .i64 p]] = some r ∧ AixPost b p 600 r := by
  obtain ⟨r, hr, fl, rows, nx, p1, rfl, h1, h2, hfl, hrs, hn1, hn2⟩ := index_ex b p (by omega) hb
  have hm := more (p := p1) (by omega)
  have hr21 : RowsS 21 5 rows := ⟨Nat.le_trans hrs.1 (by omega), fun r hr => ⟨(hrs.2 r hr).1, Nat.le_trans (hrs.2 r hr).2.1 (by omega), (hrs.2 r hr).2.2⟩⟩
  have hes := made_sm fl (hrs.st (by omega) (by omega))
  obtain ⟨hes1, hes2⟩ := id hes
  obtain ⟨hrl, _⟩ := id hrs
  refine (fun ⟨r, h, hp⟩ => ⟨r, go40 rfl h, hp⟩ : (∃ r, Ends S0 _ _ r ∧ _) → _) ?_
  by_cases c0 : pickV b p1 16 = 0
  · simp only [go_sem, ↓reduceIte, Nat.reduceAdd, Nat.reduceSub, Nat.reduceEqDiff, Nat.reduceLT, Nat.reduceLeDiff, Nat.reduceMul, Int.reduceNeg, Int.reduceToNat, Int.reduceEq, Int.reduceLT, Int.reduceLE, reduceCtorEq, Tryz.f40, hm, hb, hr, c0, ex_if, ex_bool, ex_and, ex_eq]
    have ho := oneV_mem (b := b) (p := p1 + 1) (l := [0, -1, 999999999]) (by omega) hb (by decide)
    refine ⟨fun r h => by omega, fl, rows, _, _, p1 + 1 + 1, rfl, by omega, by omega, hfl, hr21, hes, ?_, ?_⟩ <;> (simp only [List.mem_cons, List.not_mem_nil, or_false] at ho; omega)
  by_cases c1 : pickV b p1 16 = 1
  · by_cases ce : 0 < ((madeE fl rows).length : Int)
    · simp only [go_sem, ↓reduceIte, Nat.reduceAdd, Nat.reduceSub, Nat.reduceEqDiff, Nat.reduceLT, Nat.reduceLeDiff, Nat.reduceMul, Int.reduceNeg, Int.reduceToNat, Int.reduceEq, Int.reduceLT, Int.reduceLE, reduceCtorEq, Tryz.f40, hm, hb, hr, c0, c1, ce, ex_if, ex_bool, ex_and, ex_eq]
      exact ⟨by omega, fun r h => by omega, fl, rows, _, nx, p1 + 1, rfl, by omega, by omega, hfl, hr21, hes.sub ((List.take_sublist _ _).trans (List.drop_sublist _ _)), by omega, by omega⟩
    · simp only [go_sem, ↓reduceIte, Nat.reduceAdd, Nat.reduceSub, Nat.reduceEqDiff, Nat.reduceLT, Nat.reduceLeDiff, Nat.reduceMul, Int.reduceNeg, Int.reduceToNat, Int.reduceEq, Int.reduceLT, Int.reduceLE, reduceCtorEq, Tryz.f40, hm, hb, hr, c0, c1, ce, ex_if, ex_bool, ex_and, ex_eq]
      refine ⟨fun r h => by omega, ?_⟩
      exact ⟨fl, rows, _, nx, p1 + 1, rfl, by omega, by omega, hfl, hr21, hes, by omega, by omega⟩
  by_cases c2 : pickV b p1 16 = 2
  · obtain ⟨r2, hr2, d, p2, rfl, j1, j2, jd⟩ := anyDoc_ex fl hfl b (p1 + 1) (by omega) hb
    simp only [go_sem, ↓reduceIte, Nat.reduceAdd, Nat.reduceSub, Nat.reduceEqDiff, Nat.reduceLT, Nat.reduceLeDiff, Nat.reduceMul, Int.reduceNeg, Int.reduceToNat, Int.reduceEq, Int.reduceLT, Int.reduceLE, reduceCtorEq, Tryz.f40, hm, hb, hr, c0, c1, c2, hr2, ex_if, ex_bool, ex_and, ex_eq]
    refine ⟨by omega, by decide +kernel, fun r h => by omega, fl, _, _, nx, p2, rfl, by omega, by omega, hfl, ⟨by simp; omega, fun r hr => ?_⟩, hes, by omega, by omega⟩
    rcases List.mem_append.1 hr with hr | hr
    · exact hr21.2 r hr
    · simp at hr; subst hr; exact jd
  by_cases c3 : pickV b p1 16 = 3
  · obtain ⟨r2, hr2, fl2, p2, rfl, j1, j2, hfl2⟩ := anyFields_ex b (p1 + 1) (by omega) hb
    simp only [go_sem, ↓reduceIte, Nat.reduceAdd, Nat.reduceSub, Nat.reduceEqDiff, Nat.reduceLT, Nat.reduceLeDiff, Nat.reduceMul, Int.reduceNeg, Int.reduceToNat, Int.reduceEq, Int.reduceLT, Int.reduceLE, reduceCtorEq, Tryz.f40, hm, hb, hr, c0, c1, c2, c3, hr2, ex_if, ex_bool, ex_and, ex_eq]
    refine ⟨fun r h => by omega, ?_⟩
    exact ⟨fl2, rows, _, nx, p2, rfl, by omega, by omega, hfl2, hr21, hes, by omega, by omega⟩
  · simp only [go_sem, ↓reduceIte, Nat.reduceAdd, Nat.reduceSub, Nat.reduceEqDiff, Nat.reduceLT, Nat.reduceLeDiff, Nat.reduceMul, Int.reduceNeg, Int.reduceToNat, Int.reduceEq, Int.reduceLT, Int.reduceLE, reduceCtorEq, Tryz.f40, hm, hb, hr, c0, c1, c2, c3, ex_if, ex_bool, ex_and, ex_eq]
    refine ⟨fun r h => by omega, ?_⟩
    exact ⟨fl, rows, _, nx, p1 + 1, rfl, by omega, by omega, hfl, hr21, hes, by omega, by omega⟩
def DFPost (r : Ans) : Prop := ∃ fl : List Field, ∃ rows : List DRow, ∃ ents : List Entry, ∃ nx : Int, ∃ q : Query, r = ⟨[none], .tup [.agg [.sl (fl.map Field.pv), .sl (rows.map DRow.pvF), .sl (ents.map Entry.pvF), .int .i64 nx], .agg [.int .i64 q.kind, .str q.field, .str q.text, .int .i64 q.low, .int .i64 q.high, .sl (q.parts.map Query.pv)]]⟩ ∧ FSm fl ∧ RowsS 21 5 rows ∧ EntSm ents ∧ -1 ≤ nx ∧ nx ≤ 999999999 ∧ q.Sm
theorem drawFind_ex (b : Str) : ∃ r, R S0 36 [.sl (b.map bytePV)] = some r ∧ DFPost r := by
  have hb : (b.take 2000).length ≤ 2000 := by simp; omega
  obtain ⟨r1, hr1, fl, rows, ents, nx, p1, rfl, h1, h2, hfl, hrs, hes, hn1, hn2⟩ := anyIndex_ex (b.take 2000) 0 (by omega) hb
  obtain ⟨r2, hr2, hq⟩ := any_ex fl (b.take 2000) p1 (by omega) hb
  obtain ⟨q, p2, rfl, h3, h4, hq⟩ := hq.get
  rw [show ((0 : Nat) : Int) = 0 from rfl] at hr1
  refine (fun ⟨r, h, hp⟩ => ⟨r, go36 rfl h, hp⟩ : (∃ r, Ends S0 _ _ r ∧ _) → _) ?_
  simp only [go_sem, ↓reduceIte, Nat.reduceAdd, Nat.reduceSub, Nat.reduceEqDiff, Nat.reduceLT, Nat.reduceLeDiff, Nat.reduceMul, Int.reduceNeg, Int.reduceToNat, Int.reduceEq, Int.reduceLT, Int.reduceLE, reduceCtorEq, Tryz.f36, hr1, hr2, hb, ex_if, ex_bool, ex_and, ex_eq]
  refine ⟨by decide +kernel, fl, rows, ents, nx, q, rfl, hfl, hrs, hes, hn1, hn2, hq⟩
end Go.Proofs.YtjagjfjhinlgiaaGreatDoor.PVE
