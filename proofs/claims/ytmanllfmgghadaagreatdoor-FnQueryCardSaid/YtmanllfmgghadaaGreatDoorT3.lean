/- Queries. -/
import Derived.Test.YtmanllfmgghadaaGreatDoorT2
set_option linter.unusedVariables false
set_option linter.unusedSimpArgs false
set_option maxRecDepth 100000
namespace Go.Proofs.YtmanllfmgghadaaGreatDoor.PVE
open PV
inductive Query where
  | mk (kind : Int) (field text : Str) (low high : Int) (parts : List Query)
  deriving Inhabited
namespace Query
def kind : Query → Int | mk k _ _ _ _ _ => k
def field : Query → Str | mk _ f _ _ _ _ => f
def text : Query → Str | mk _ _ t _ _ _ => t
def low : Query → Int | mk _ _ _ l _ _ => l
def high : Query → Int | mk _ _ _ _ h _ => h
def parts : Query → List Query | mk _ _ _ _ _ p => p
mutual
def pv : Query → PV | mk k f t l h p => .agg [.int .i64 k, .str f, .str t, .int .i64 l, .int .i64 h, .sl (pvL p)]
def pvL : List Query → List PV
  | [] => []
  | q :: l => pv q :: pvL l
end
mutual
def pvo : Query → PV | mk k f t l h p => .agg [.int .i64 k, .str f, .str t, .int .i64 l, .int .i64 h, .slo 6 (pvoL p)]
def pvoL : List Query → List PV
  | [] => []
  | q :: l => pvo q :: pvoL l
end
theorem pvL_map : ∀ l, pvL l = l.map pv
  | [] => rfl
  | q :: l => by rw [pvL, pvL_map l]; rfl
theorem pvoL_map : ∀ l, pvoL l = l.map pvo
  | [] => rfl
  | q :: l => by rw [pvoL, pvoL_map l]; rfl
theorem pv_eq : ∀ q : Query, q.pv = .agg [.int .i64 q.kind, .str q.field, .str q.text, .int .i64 q.low, .int .i64 q.high, .sl (q.parts.map pv)]
  | mk k f t l h p => by rw [pv, pvL_map]; rfl
theorem pvo_eq : ∀ q : Query, q.pvo = .agg [.int .i64 q.kind, .str q.field, .str q.text, .int .i64 q.low, .int .i64 q.high, .slo 6 (q.parts.map pvo)]
  | mk k f t l h p => by rw [pvo, pvoL_map]; rfl
@[go_sem] theorem cells (q : Query) : q.pv.cells = [.int .i64 q.kind, .str q.field, .str q.text, .int .i64 q.low, .int .i64 q.high, .sl (q.parts.map pv)] := by rw [pv_eq]; rfl
@[go_sem] theorem cellso (q : Query) : q.pvo.cells = [.int .i64 q.kind, .str q.field, .str q.text, .int .i64 q.low, .int .i64 q.high, .slo 6 (q.parts.map pvo)] := by rw [pvo_eq]; rfl
@[elab_as_elim] theorem ind {P : Query → Prop} (h : ∀ q : Query, (∀ p ∈ q.parts, P p) → P q) : ∀ q, P q := by
  intro q
  induction hn : SizeOf.sizeOf q using Nat.strongRecOn generalizing q with
  | _ n ih =>
    refine h q fun p hp => ih (SizeOf.sizeOf p) ?_ p rfl
    cases q with
    | mk k f t l hh ps =>
      have := List.sizeOf_lt_of_mem hp
      simp only [mk.sizeOf_spec] at hn
      simp only [parts] at this
      omega
end Query
open Query
theorem all_freeL {f : Query → PV} : ∀ {l : List Query}, (∀ p ∈ l, (f p).free) → PV.freeL (l.map f)
  | [], _ => trivial
  | q :: l, h => ⟨h q (by simp), all_freeL fun p hp => h p (List.mem_cons_of_mem _ hp)⟩
theorem all_noRL {f : Query → PV} : ∀ {l : List Query}, (∀ p ∈ l, (f p).noR) → PV.noRL (l.map f)
  | [], _ => trivial
  | q :: l, h => ⟨h q (by simp), all_noRL fun p hp => h p (List.mem_cons_of_mem _ hp)⟩
theorem all_stripL {f g : Query → PV} : ∀ {l : List Query}, (∀ p ∈ l, (f p).strip = g p) → PV.stripL (l.map f) = l.map g
  | [], _ => rfl
  | q :: l, h => by rw [List.map_cons, PV.stripL, h q (by simp), all_stripL fun p hp => h p (List.mem_cons_of_mem _ hp)]; rfl
theorem pv_free (q : Query) : q.pv.free := by
  refine Query.ind (P := fun q => q.pv.free) (fun q ih => ?_) q
  rw [pv_eq]
  exact ⟨trivial, trivial, trivial, trivial, trivial, all_freeL ih, trivial⟩
theorem pvo_free (q : Query) : q.pvo.free := by
  refine Query.ind (P := fun q => q.pvo.free) (fun q ih => ?_) q
  rw [pvo_eq]
  exact ⟨trivial, trivial, trivial, trivial, trivial, all_freeL ih, trivial⟩
instance : Enc Query.pv 6 := ⟨pv_free, fun q => by
    have := all_freeL (l := q.parts) fun p _ => pv_free p
    rw [pv_eq]; simp only [PV.okr, PV.okrL, this, and_self], fun q => by rw [Query.cells]; rfl⟩
instance : Enc Query.pvo 6 := ⟨pvo_free, fun q => by
    have := all_freeL (l := q.parts) fun p _ => pvo_free p
    rw [pvo_eq]; simp only [PV.okr, PV.okrL, this, and_self], fun q => by rw [Query.cellso]; rfl⟩
instance : EncN Query.pvo := ⟨fun q => by
    refine Query.ind (P := fun q => q.pvo.noR) (fun q ih => ?_) q
    rw [pvo_eq]
    exact ⟨trivial, trivial, trivial, trivial, trivial, all_noRL ih, trivial⟩⟩
instance : EncS Query.pvo Query.pv := ⟨fun q => by
    refine Query.ind (P := fun q => q.pvo.strip = q.pv) (fun q ih => ?_) q
    rw [pvo_eq, pv_eq]
    simp only [PV.strip, PV.stripL, all_stripL ih]⟩
instance : EncS Query.pv Query.pv := ⟨fun q => by rw [pv_eq]; rfl⟩
inductive Query.Sm : Query → Prop
  | mk (q : Query) (hf : q.field.length ≤ 1099511627776) (ht : q.text.length ≤ 1099511627776) (hp : q.parts.length ≤ 1099511627776) (h : ∀ p ∈ q.parts, p.Sm) : q.Sm
def leafOk (q : Query) : Bool :=
  let field := decide (q.field = []) || nameOk q.field
  let plain := decide (q.low = 0) && decide (q.high = 0)
  if q.kind = 1 then decide (q.field = []) && decide (q.text = []) && plain
  else if q.kind = 2 then field && wordsOk q.text 1 1 && decide (stem q.text ≠ []) && plain
  else if q.kind = 3 then field && wordsOk q.text 2 4 && plain
  else if q.kind = 4 then field && isWord q.text && decide (q.text.length ≤ 12) && decide (foldS q.text = q.text) && plain
  else if q.kind = 5 then nameOk q.field && decide (q.text = []) && inB q.low (-999999999) 999999999 && inB q.high (-999999999) 999999999
  else if q.kind = 6 then nameOk q.field && nameOk q.text && plain
  else false
def nodeOk (q : Query) : Bool :=
  if q.parts = [] then leafOk q
  else (((decide (q.kind = 7) || decide (q.kind = 8)) && inB q.parts.length 2 4) || (decide (q.kind = 9) && decide (q.parts.length = 1))) && decide (q.field = []) && decide (q.text = []) && decide (q.low = 0) && decide (q.high = 0)
def okQ : Nat → Query → Bool
  | 0, _ => false
  | d + 1, q => nodeOk q && q.parts.all (okQ d)
theorem implOk_R (d : Nat) : ∀ (q : Query) (hq : q.Sm) (k : Nat) (hd : d + k = 5), R S0 105 [.agg [.int .i64 q.kind, .str q.field, .str q.text, .int .i64 q.low, .int .i64 q.high, .sl (q.parts.map pv)], .int .i64 k] = some ⟨[none, none], .bool (okQ d q)⟩ := by
  induction d with
  | zero =>
    intro q hq k hd
    have h1 : (4 : Int) < k := by omega
    refine go105 rfl ?_; simp only [go_sem, ↓reduceIte, Nat.reduceAdd, Nat.reduceSub, Nat.reduceEqDiff, Nat.reduceLT, Nat.reduceLeDiff, Nat.reduceMul, Int.reduceNeg, Int.reduceToNat, Int.reduceEq, Int.reduceLT, Int.reduceLE, reduceCtorEq, Tryz.f105, h1]
    rfl
  | succ d ih =>
    intro q hq k hd
    have h1 : ¬ (4 : Int) < k := by omega
    obtain ⟨_, hf, ht, hp, hs⟩ := hq
    have hpl : ((q.parts.length : Int) = 0) = (q.parts = []) := by rw [← List.length_eq_zero_iff]; exact propext ⟨fun h => by omega, fun h => by omega⟩
    have hk1 : IntKind.i64.wrap ((k : Int) + 1) = ((k + 1 : Nat) : Int) := by rw [wrap_in (by omega) (by omega)]; omega
    have hfin : okQ (d + 1) q = (nodeOk q && q.parts.all (okQ d)) := rfl
    refine go105 rfl ?_; simp only [go_sem, ↓reduceIte, Nat.reduceAdd, Nat.reduceSub, Nat.reduceEqDiff, Nat.reduceLT, Nat.reduceLeDiff, Nat.reduceMul, Int.reduceNeg, Int.reduceToNat, Int.reduceEq, Int.reduceLT, Int.reduceLE, reduceCtorEq, Tryz.f105, h1, hf, ht, hpl]
    generalize hQ : Ends S0 _ _ _ = Q
    have hloop : nodeOk q = true → Q := by
      intro hn
      rw [← hQ]
      refine ends_for q.parts.length (by omega) (fun i _ => mkSt [(1, .int .i64 k), (183, .sl (q.parts.map pv)), (184, .int .i64 q.parts.length), (185, .int .i64 i)] []) (fun i _ => (q.parts.drop i).all (okQ d) = q.parts.all (okQ d)) 0 () (by omega) rfl ?_ ?_
      · rintro i _ hi hI hw ihl
        obtain ⟨x, hx, hg, hd⟩ := drop_get hi default
        have ihx := ih x (hs x (List.mem_of_getElem? hx)) (k + 1) (by omega)
        rw [hd, List.all_cons] at hI
        simp only [go_sem, ↓reduceIte, Nat.reduceAdd, Nat.reduceSub, Nat.reduceEqDiff, Nat.reduceLT, Nat.reduceLeDiff, Nat.reduceMul, Int.reduceNeg, Int.reduceToNat, Int.reduceEq, Int.reduceLT, Int.reduceLE, reduceCtorEq, hi, hw, hg, hk1, ihx]
        have ihl := ihl ()
        generalize Ends S0 _ _ _ = W at ihl ⊢
        rw [hfin, hn, ← hI]
        cases h : okQ d x <;> simp_all
      · rintro _ hI
        rw [List.drop_length, List.all_nil] at hI
        simp only [go_sem, ↓reduceIte, Nat.reduceAdd, Nat.reduceSub, Nat.reduceEqDiff, Nat.reduceLT, Nat.reduceLeDiff, Nat.reduceMul, Int.reduceNeg, Int.reduceToNat, Int.reduceEq, Int.reduceLT, Int.reduceLE, reduceCtorEq]
        rw [hfin, hn, ← hI]; rfl
    have hall : q.parts = [] → q.parts.all (okQ d) = true := fun h => by rw [h]; rfl
    have hnil : q.parts = [] → q.parts.length = 0 := fun h => by rw [h]; rfl
    rw [hfin]
    generalize q.parts.all (okQ d) = A at *
    clear hQ ih hfin
    unfold nodeOk leafOk at *
    have hin : inB q.parts.length 2 4 = (decide (2 ≤ q.parts.length) && decide (q.parts.length ≤ 4)) := by unfold inB; congr 1 <;> apply decide_eq_decide.2 <;> omega
    clear hs hf ht hk1 hp hd h1
    have hone : ((q.parts.length : Int) = 1) = (q.parts.length = 1) := by apply propext; omega
    rw [hin] at hloop ⊢
    simp only [hone]
    clear hin hone hpl
    by_cases k1 : q.kind = 1
    · simp [k1] at hloop ⊢; grind (splits := 60)
    by_cases k2 : q.kind = 2
    · simp [k2] at hloop ⊢; grind (splits := 60)
    by_cases k3 : q.kind = 3
    · simp [k3] at hloop ⊢; grind (splits := 60)
    by_cases k4 : q.kind = 4
    · simp [k4] at hloop ⊢; grind (splits := 60)
    by_cases k5 : q.kind = 5
    · simp [k5] at hloop ⊢; grind (splits := 60)
    by_cases k6 : q.kind = 6
    · simp [k6] at hloop ⊢; grind (splits := 60)
    by_cases k7 : q.kind = 7
    · simp [k7] at hloop ⊢; grind (splits := 60)
    by_cases k8 : q.kind = 8
    · simp [k8] at hloop ⊢; grind (splits := 60)
    by_cases k9 : q.kind = 9
    · simp [k9] at hloop ⊢; grind (splits := 60)
    simp [k1, k2, k3, k4, k5, k6, k7, k8, k9]
@[go_sem] theorem implQueryOk_R (q : Query) (hq : q.Sm) : R S0 46 [.agg [.int .i64 q.kind, .str q.field, .str q.text, .int .i64 q.low, .int .i64 q.high, .sl (q.parts.map pv)]] = some ⟨[none], .bool (okQ 4 q)⟩ := by
  have h := implOk_R 4 q hq 1 rfl
  rw [cast_one] at h
  refine go46 rfl ?_; simp only [go_sem, ↓reduceIte, Nat.reduceAdd, Nat.reduceSub, Nat.reduceEqDiff, Nat.reduceLT, Nat.reduceLeDiff, Nat.reduceMul, Int.reduceNeg, Int.reduceToNat, Int.reduceEq, Int.reduceLT, Int.reduceLE, reduceCtorEq, Tryz.f46, h]
theorem cnt_in (s : Str) (lo hi : Int) (h : 1 ≤ lo) : inB (cntW s) lo hi = ((splitB 32 s).all isWord && inB (splitB 32 s).length lo hi) := by
  rw [cntW_eq]
  split
  · rename_i h2; rw [h2, Bool.true_and]
  · rename_i h2
    have h3 : (splitB 32 s).all isWord = false := by simpa using h2
    rw [h3, Bool.false_and, inB, decide_eq_false (by omega), Bool.false_and]
theorem cnt_one (s : Str) : (cntW s = 1) = (isWord s = true) := by
  rw [cntW_eq]
  refine propext ⟨fun h => ?_, fun h => ?_⟩
  · split at h
    · rename_i h2
      have h3 : (splitB 32 s).length = 1 := by omega
      obtain ⟨w, hw⟩ := List.length_eq_one_iff.1 h3
      have h4 := joinB_split s
      rw [hw] at h4 h2
      simp only [joinB] at h4
      subst h4
      simpa using h2
    · cases h
  · have h2 := h
    simp only [isWord, Bool.and_eq_true] at h2
    rw [split_one h2.1]
    simp [h]
def leafS (q : Query) : Bool :=
  let field := decide (q.field = []) || nameOk q.field
  let plain := decide (q.low = 0) && decide (q.high = 0)
  if q.kind = 1 then decide (q.field = []) && decide (q.text = []) && plain
  else if q.kind = 2 then field && plain && decide (q.text.length ≤ 60) && decide (cntW q.text = 1) && decide (stem q.text ≠ [])
  else if q.kind = 3 then field && plain && decide (q.text.length ≤ 60) && inB (cntW q.text) 2 4
  else if q.kind = 4 then field && plain && inB q.text.length 1 12 && decide (cntW q.text = 1) && decide (foldS q.text = q.text)
  else if q.kind = 5 then nameOk q.field && decide (q.text = []) && inB q.low (-999999999) 999999999 && inB q.high (-999999999) 999999999
  else if q.kind = 6 then nameOk q.field && nameOk q.text && plain
  else false
theorem leafS_eq (q : Query) : leafS q = leafOk q := by
  have h1 : wordsOk q.text 1 1 = (decide (cntW q.text = 1) && decide (q.text.length ≤ 60)) := by
    have := cnt_in q.text 1 1 (by omega)
    rw [wordsOk, ← this, inB]
    congr 1
    rw [← Bool.decide_and]
    apply decide_eq_decide.2
    omega
  have h2 : wordsOk q.text 2 4 = (inB (cntW q.text) 2 4 && decide (q.text.length ≤ 60)) := by
    rw [wordsOk, ← cnt_in q.text 2 4 (by omega)]
  have h3 : isWord q.text = decide (cntW q.text = 1) := by rw [Bool.eq_iff_iff, ← cnt_one]; simp
  have h4 : isWord q.text = true → 1 ≤ q.text.length := by
    intro h
    simp only [isWord, Bool.and_eq_true, bne_iff_ne, ne_eq] at h
    exact List.length_pos_iff.2 h.2
  have h5 : decide (cntW q.text = 1) = true → inB q.text.length 1 12 = decide (q.text.length ≤ 12) := by
    intro h
    have := h4 (by rw [h3]; exact h)
    rw [inB, decide_eq_true (by omega), Bool.true_and]
    apply decide_eq_decide.2
    omega
  unfold leafS leafOk
  rw [h1, h2, h3]
  dsimp only
  repeat' split
  all_goals grind
@[go_sem] theorem l5Leaf_R (q : Query) (hf : q.field.length ≤ 1099511627776) (ht : q.text.length ≤ 1099511627776) : R S0 172 [.agg [.int .i64 q.kind, .str q.field, .str q.text, .int .i64 q.low, .int .i64 q.high, .sl (q.parts.map pv)]] = some ⟨[none], .bool (leafOk q)⟩ := by
  have h12 : ((q.text.length : Int) ≤ 60) = (q.text.length ≤ 60) := by apply propext; omega
  rw [← leafS_eq]
  refine go172 rfl ?_; simp only [go_sem, ↓reduceIte, Nat.reduceAdd, Nat.reduceSub, Nat.reduceEqDiff, Nat.reduceLT, Nat.reduceLeDiff, Nat.reduceMul, Int.reduceNeg, Int.reduceToNat, Int.reduceEq, Int.reduceLT, Int.reduceLE, reduceCtorEq, Tryz.f172, hf, ht, h12]
  unfold leafS
  by_cases k1 : q.kind = 1
  · simp [k1]; grind (splits := 60)
  by_cases k2 : q.kind = 2
  · simp [k2]; grind (splits := 60)
  by_cases k3 : q.kind = 3
  · simp [k3]; grind (splits := 60)
  by_cases k4 : q.kind = 4
  · simp [k4]; grind (splits := 60)
  by_cases k5 : q.kind = 5
  · simp [k5]; grind (splits := 60)
  by_cases k6 : q.kind = 6
  · simp [k6]; grind (splits := 60)
  simp [k1, k2, k3, k4, k5, k6]
theorem specOk_R (d : Nat) (hd4 : d ≤ 4) : ∀ (q : Query) (hq : q.Sm), R S0 106 [.agg [.int .i64 q.kind, .str q.field, .str q.text, .int .i64 q.low, .int .i64 q.high, .sl (q.parts.map pv)], .int .i64 d] = some ⟨[none, none], .bool (okQ d q)⟩ := by
  induction d with
  | zero =>
    intro q hq
    have h1 : ((0 : Nat) : Int) < 1 := by omega
    refine go106 rfl ?_; simp only [go_sem, ↓reduceIte, Nat.reduceAdd, Nat.reduceSub, Nat.reduceEqDiff, Nat.reduceLT, Nat.reduceLeDiff, Nat.reduceMul, Int.reduceNeg, Int.reduceToNat, Int.reduceEq, Int.reduceLT, Int.reduceLE, reduceCtorEq, Tryz.f106, h1]
    rfl
  | succ d ih =>
    intro q hq
    have ih := ih (by omega)
    have h1 : ¬ ((d + 1 : Nat) : Int) < 1 := by omega
    have hpl : ((q.parts.length : Int) = 0) = (q.parts = []) := by rw [← List.length_eq_zero_iff]; exact propext ⟨fun h => by omega, fun h => by omega⟩
    have hk1 : IntKind.i64.wrap (((d + 1 : Nat) : Int) - 1) = (d : Int) := by rw [wrap_in (by omega) (by omega)]; omega
    have hfin : okQ (d + 1) q = (nodeOk q && q.parts.all (okQ d)) := rfl
    obtain ⟨_, hf, ht, hp, hs⟩ := hq
    refine go106 rfl ?_; simp only [go_sem, ↓reduceIte, Nat.reduceAdd, Nat.reduceSub, Nat.reduceEqDiff, Nat.reduceLT, Nat.reduceLeDiff, Nat.reduceMul, Int.reduceNeg, Int.reduceToNat, Int.reduceEq, Int.reduceLT, Int.reduceLE, reduceCtorEq, Tryz.f106, h1, hf, ht, hpl]
    refine ⟨fun h => ?_, fun hne => ?_⟩
    · rw [hfin, nodeOk, if_pos h, h]; simp
    · refine ends_for q.parts.length (by omega) (fun i _ => mkSt [(1, .int .i64 (d + 1 : Nat)), (2, .addr 0 0 0), (5, .int .i64 q.parts.length), (6, .int .i64 i)] [.pto [.int .i64 q.kind, .str q.field, .str q.text, .int .i64 q.low, .int .i64 q.high, .sl (q.parts.map pv)]]) (fun i _ => (q.parts.drop i).all (okQ d) = q.parts.all (okQ d)) 0 () (by omega) rfl ?_ ?_
      · rintro i _ hi hI hw ihl
        obtain ⟨x, hx, hg, hd⟩ := drop_get hi default
        have ihx := ih x (hs x (List.mem_of_getElem? hx))
        rw [hd, List.all_cons] at hI
        simp only [go_sem, ↓reduceIte, Nat.reduceAdd, Nat.reduceSub, Nat.reduceEqDiff, Nat.reduceLT, Nat.reduceLeDiff, Nat.reduceMul, Int.reduceNeg, Int.reduceToNat, Int.reduceEq, Int.reduceLT, Int.reduceLE, reduceCtorEq, hi, hw, hg, hk1, ihx]
        have ihl := ihl ()
        generalize Ends S0 _ _ _ = W at ihl ⊢
        rw [hfin, ← hI]
        cases h : okQ d x <;> simp_all
      · rintro _ hI
        rw [List.drop_length, List.all_nil] at hI
        simp only [go_sem, ↓reduceIte, Nat.reduceAdd, Nat.reduceSub, Nat.reduceEqDiff, Nat.reduceLT, Nat.reduceLeDiff, Nat.reduceMul, Int.reduceNeg, Int.reduceToNat, Int.reduceEq, Int.reduceLT, Int.reduceLE, reduceCtorEq]
        rw [hfin, nodeOk, if_neg hne, ← hI, Bool.and_true]
        have hin : inB q.parts.length 2 4 = (decide (2 ≤ q.parts.length) && decide (q.parts.length ≤ 4)) := by unfold inB; congr 1 <;> apply decide_eq_decide.2 <;> omega
        have hone : ((q.parts.length : Int) = 1) = (q.parts.length = 1) := by apply propext; omega
        rw [hin]
        simp only [hone]
        by_cases k7 : q.kind = 7
        · simp [k7]; grind (splits := 60)
        by_cases k8 : q.kind = 8
        · simp [k8]; grind (splits := 60)
        by_cases k9 : q.kind = 9
        · simp [k9]; grind (splits := 60)
        simp [k7, k8, k9]
@[go_sem] theorem specQueryOk_R (q : Query) (hq : q.Sm) : R S0 47 [.agg [.int .i64 q.kind, .str q.field, .str q.text, .int .i64 q.low, .int .i64 q.high, .sl (q.parts.map pv)]] = some ⟨[none], .bool (okQ 4 q)⟩ := by
  have h := specOk_R 4 (by omega) q hq
  rw [show ((4 : Nat) : Int) = 4 from rfl] at h
  refine go47 rfl ?_; simp only [go_sem, ↓reduceIte, Nat.reduceAdd, Nat.reduceSub, Nat.reduceEqDiff, Nat.reduceLT, Nat.reduceLeDiff, Nat.reduceMul, Int.reduceNeg, Int.reduceToNat, Int.reduceEq, Int.reduceLT, Int.reduceLE, reduceCtorEq, Tryz.f47, h]
def kindF (l : List Field) (n : Str) (k : Int) : Bool := decide ((fieldOf l n).kind = k)
def nodeF (l : List Field) (q : Query) : Bool :=
  if q.kind = 2 ∨ q.kind = 3 ∨ q.kind = 4 then decide (q.field = []) || kindF l q.field 1
  else if q.kind = 5 then kindF l q.field 2
  else if q.kind = 6 then kindF l q.field 3
  else true
mutual
def fitsI (l : List Field) : Query → Bool | .mk k f t lo hi p => if 2 ≤ k ∧ k ≤ 6 then nodeF l (.mk k f t lo hi p) else fitsIL l p
def fitsIL (l : List Field) : List Query → Bool
  | [] => true
  | q :: qs => fitsI l q && fitsIL l qs
end
mutual
def fitsS (l : List Field) : Query → Bool | .mk k f t lo hi p => fitsSL l p && nodeF l (.mk k f t lo hi p)
def fitsSL (l : List Field) : List Query → Bool
  | [] => true
  | q :: qs => fitsS l q && fitsSL l qs
end
theorem nodeOk_leaf {q : Query} (h : nodeOk q = true) (hk : 2 ≤ q.kind ∧ q.kind ≤ 6) : q.parts = [] := by
  unfold nodeOk at h
  split at h
  · assumption
  · simp only [Bool.and_eq_true, Bool.or_eq_true, decide_eq_true_eq] at h
    omega
end Go.Proofs.YtmanllfmgghadaaGreatDoor.PVE
