/- Fields, and words of a text. -/
import Derived.Test.YtmanllfmgghadaaGreatDoorT1
set_option linter.unusedVariables false
set_option linter.unusedSimpArgs false
set_option maxRecDepth 100000
namespace Go.Proofs.YtmanllfmgghadaaGreatDoor.PVE
open PV
structure Field where
  name : Str
  kind : Int
  weight : Int
  deriving DecidableEq, Inhabited
def Field.pv (f : Field) : PV := .agg [.str f.name, .int .i64 f.kind, .int .i64 f.weight]
instance : Enc Field.pv 3 := ⟨fun _ => by simp only [Field.pv, PV.free, PV.freeL, and_self], fun _ => by simp only [Field.pv, PV.okr, PV.okrL, and_self], fun _ => rfl⟩
instance : EncF Field.pv := ⟨fun _ => rfl⟩
instance : EncN Field.pv := ⟨fun _ => by simp only [Field.pv, PV.noR, PV.noRL, and_self]⟩
instance : EncS Field.pv Field.pv := ⟨fun _ => rfl⟩
@[go_sem] theorem Field.cells (f : Field) : f.pv.cells = [.str f.name, .int .i64 f.kind, .int .i64 f.weight] := rfl
@[go_sem] theorem Field.snoc (l : List Field) (a : Str) (b c : Int) : l.map Field.pv ++ [.agg [.str a, .int .i64 b, .int .i64 c]] = (l ++ [Field.mk a b c]).map Field.pv := by simp [Field.pv]
def fieldOf (l : List Field) (n : Str) : Field := (l.find? fun f => f.name = n).getD ⟨[], 0, 0⟩
def fieldIx (l : List Field) (n : Str) : Int := if (l.any fun f => f.name = n) = true then l.findIdx fun f => f.name = n else -1
theorem look_at {α : Type} {p : α → Bool} {l : List α} {i : Nat} {x : α} (h : ∀ y ∈ l.take i, p y = false) (hx : l[i]? = some x) (hp : p x = true) : l.find? p = some x ∧ l.findIdx p = i ∧ l.any p = true := by
  have hi : i < l.length := (List.getElem?_eq_some_iff.1 hx).1
  have hl : l = l.take i ++ x :: l.drop (i + 1) := by
    have h2 := (List.getElem?_eq_some_iff.1 hx).2
    rw [← h2, ← List.drop_eq_getElem_cons hi, List.take_append_drop]
  have hn : (l.take i).find? p = none := List.find?_eq_none.2 fun y hy => by rw [h y hy]; simp
  refine ⟨?_, ?_, ?_⟩
  · rw [hl, List.find?_append, hn, List.find?_cons_of_pos hp]; rfl
  · have h4 : (l.take i).findIdx p = (l.take i).length := List.findIdx_eq_length.2 fun y hy => h y hy
    rw [hl, List.findIdx_append, h4, if_neg (by omega), List.findIdx_cons, hp]
    simp [Nat.min_eq_left (Nat.le_of_lt hi)]
  · rw [hl]; simp [hp]
theorem look_no {α : Type} {p : α → Bool} {l : List α} (h : ∀ y ∈ l, p y = false) : l.find? p = none ∧ l.any p = false :=
  ⟨List.find?_eq_none.2 fun y hy => by rw [h y hy]; simp, by simpa using h⟩
theorem take_step {α : Type} {P : α → Prop} {l : List α} {i : Nat} {x : α} (h : ∀ y ∈ l.take i, P y) (hx : l[i]? = some x) (hp : P x) : ∀ y ∈ l.take (i + 1), P y := by
  intro y hy
  rw [List.take_add_one, hx] at hy
  rcases List.mem_append.1 hy with hy | hy
  · exact h y hy
  · simp at hy; subst hy; exact hp
@[go_sem] theorem fieldOf_R (l : List Field) (n : Str) (hl : l.length ≤ 1099511627776) : R S0 148 [.sl (l.map Field.pv), .str n] = some ⟨[none, none], .agg [.str (fieldOf l n).name, .int .i64 (fieldOf l n).kind, .int .i64 (fieldOf l n).weight]⟩ := by
  refine go148 rfl ?_; simp only [go_sem, ↓reduceIte, Nat.reduceAdd, Nat.reduceSub, Nat.reduceEqDiff, Nat.reduceLT, Nat.reduceLeDiff, Nat.reduceMul, Int.reduceNeg, Int.reduceToNat, Int.reduceEq, Int.reduceLT, Int.reduceLE, reduceCtorEq, Tryz.f148]
  refine ends_for l.length (by omega) (fun i _ => mkSt [(1, .str n), (4, .addr 0 0 0), (7, .sl (l.map Field.pv)), (8, .int .i64 l.length), (9, .int .i64 i)] [.pto [.str [], .int .i64 0, .int .i64 0]]) (fun i _ => ∀ f ∈ l.take i, decide (f.name = n) = false) 0 () (by omega) (by simp) ?_ ?_
  · intro i _ hi hI hw ih
    obtain ⟨x, hx, hg, hd⟩ := drop_get hi default
    simp only [go_sem, ↓reduceIte, Nat.reduceAdd, Nat.reduceSub, Nat.reduceEqDiff, Nat.reduceLT, Nat.reduceLeDiff, Nat.reduceMul, Int.reduceNeg, Int.reduceToNat, Int.reduceEq, Int.reduceLT, Int.reduceLE, reduceCtorEq, hi, hw, hg]
    refine ⟨fun h => ?_, fun h => ih () (take_step hI hx (by simpa using h))⟩
    have := (look_at hI hx (by simpa using h)).1
    simp [fieldOf, this]
  · intro _ hI
    simp only [go_sem, ↓reduceIte, Nat.reduceAdd, Nat.reduceSub, Nat.reduceEqDiff, Nat.reduceLT, Nat.reduceLeDiff, Nat.reduceMul, Int.reduceNeg, Int.reduceToNat, Int.reduceEq, Int.reduceLT, Int.reduceLE, reduceCtorEq]
    rw [List.take_length] at hI
    simp [fieldOf, (look_no hI).1]
@[go_sem] theorem l2Field_R (l : List Field) (n : Str) (hl : l.length ≤ 1099511627776) : R S0 143 [.sl (l.map Field.pv), .str n] = some ⟨[none, none], .int .i64 (fieldIx l n)⟩ := by
  refine go143 rfl ?_; simp only [go_sem, ↓reduceIte, Nat.reduceAdd, Nat.reduceSub, Nat.reduceEqDiff, Nat.reduceLT, Nat.reduceLeDiff, Nat.reduceMul, Int.reduceNeg, Int.reduceToNat, Int.reduceEq, Int.reduceLT, Int.reduceLE, reduceCtorEq, Tryz.f143]
  refine ends_for l.length (by omega) (fun i _ => mkSt [(0, .sl (l.map Field.pv)), (1, .str n), (5, .int .i64 i)] []) (fun i _ => ∀ f ∈ l.take i, decide (f.name = n) = false) 0 () (by omega) (by simp) ?_ ?_
  · intro i _ hi hI hw ih
    obtain ⟨x, hx, hg, hd⟩ := drop_get hi default
    simp only [go_sem, ↓reduceIte, Nat.reduceAdd, Nat.reduceSub, Nat.reduceEqDiff, Nat.reduceLT, Nat.reduceLeDiff, Nat.reduceMul, Int.reduceNeg, Int.reduceToNat, Int.reduceEq, Int.reduceLT, Int.reduceLE, reduceCtorEq, hi, hw, hg]
    refine ⟨fun h => ?_, fun h => ih () (take_step hI hx (by simpa using h))⟩
    have := (look_at hI hx (by simpa using h))
    simp [fieldIx, this.2.1, this.2.2]
  · intro _ hI
    simp only [go_sem, ↓reduceIte, Nat.reduceAdd, Nat.reduceSub, Nat.reduceEqDiff, Nat.reduceLT, Nat.reduceLeDiff, Nat.reduceMul, Int.reduceNeg, Int.reduceToNat, Int.reduceEq, Int.reduceLT, Int.reduceLE, reduceCtorEq]
    rw [List.take_length] at hI
    have := (look_no hI).2
    rw [fieldIx, if_neg (by rw [this]; simp)]
theorem fieldIx_cases (l : List Field) (n : Str) : (fieldIx l n = -1 ∧ (l.any fun f => f.name = n) = false ∧ fieldOf l n = ⟨[], 0, 0⟩) ∨ (0 ≤ fieldIx l n ∧ (fieldIx l n).toNat < l.length ∧ (l.any fun f => f.name = n) = true ∧ l.getD (fieldIx l n).toNat default = fieldOf l n) := by
  cases h : (l.any fun f => f.name = n) with
  | false =>
    refine .inl ⟨by rw [fieldIx, if_neg (by rw [h]; simp)], rfl, ?_⟩
    have : (l.find? fun f => f.name = n) = none := List.find?_eq_none.2 (by simpa using h)
    rw [fieldOf, this]; rfl
  | true =>
    have hlt : (l.findIdx fun f => f.name = n) < l.length := List.findIdx_lt_length.2 (by simpa using h)
    have e : fieldIx l n = ((l.findIdx fun f => f.name = n : Nat) : Int) := by rw [fieldIx, if_pos h]
    refine .inr ⟨by omega, by rw [e]; simpa using hlt, rfl, ?_⟩
    rw [e, Int.toNat_natCast, fieldOf, List.getD_eq_getElem?_getD, List.getElem?_eq_getElem hlt]
    have hI : ∀ f ∈ l.take (l.findIdx fun f => f.name = n), decide (f.name = n) = false := by
      intro f hf
      obtain ⟨j, hj, rfl⟩ := List.mem_iff_getElem.1 hf
      rw [List.getElem_take]
      have hj : j < l.findIdx fun f => f.name = n := by simp at hj; omega
      simpa using List.not_of_lt_findIdx hj
    have hp := List.findIdx_getElem (w := hlt)
    rw [(look_at hI (List.getElem?_eq_getElem hlt) hp).1]
    rfl
@[go_sem] theorem l2Kind_R (l : List Field) (n : Str) (k : Int) (hl : l.length ≤ 1099511627776) : R S0 188 [.sl (l.map Field.pv), .str n, .int .i64 k] = some ⟨[none, none, none], .bool ((l.any fun f => f.name = n) && decide ((fieldOf l n).kind = k))⟩ := by
  refine go188 rfl ?_; simp only [go_sem, ↓reduceIte, Nat.reduceAdd, Nat.reduceSub, Nat.reduceEqDiff, Nat.reduceLT, Nat.reduceLeDiff, Nat.reduceMul, Int.reduceNeg, Int.reduceToNat, Int.reduceEq, Int.reduceLT, Int.reduceLE, reduceCtorEq, Tryz.f188, hl]
  rcases fieldIx_cases l n with ⟨h1, h2, h3⟩ | ⟨h1, h2, h3, h4⟩
  · simp [h1, h2]
  · rw [h3, h4]; simp [h1, h2]
def fieldOk (f : Field) : Bool := nameOk f.name && inB f.kind 1 3 && (if f.kind = 1 then inB f.weight 1 9 else f.weight = 0)
def fieldsL : List Str → List Field → Bool
  | _, [] => true
  | ns, f :: l => fieldOk f && !ns.contains f.name && fieldsL (ns ++ [f.name]) l
def FSm (l : List Field) : Prop := l.length ≤ 1099511627776 ∧ ∀ f ∈ l, f.name.length ≤ 1099511627776
def fieldsOk (l : List Field) : Bool := fieldsL [] l && inB l.length 1 4
@[go_sem] theorem fieldsOk_R (l : List Field) (h : FSm l) : R S0 121 [.sl (l.map Field.pv)] = some ⟨[none], .bool (fieldsOk l)⟩ := by
  obtain ⟨hl, hn⟩ := h
  refine go121 rfl ?_; simp only [go_sem, ↓reduceIte, Nat.reduceAdd, Nat.reduceSub, Nat.reduceEqDiff, Nat.reduceLT, Nat.reduceLeDiff, Nat.reduceMul, Int.reduceNeg, Int.reduceToNat, Int.reduceEq, Int.reduceLT, Int.reduceLE, reduceCtorEq, Tryz.f121, hl]
  refine ends_for l.length (by omega) (fun i (ns : List Str) => mkSt [(0, .sl (l.map Field.pv)), (3, .own 0), (8, .sl (l.map Field.pv)), (9, .int .i64 l.length), (10, .int .i64 i)] [.slo 1 (ns.map .str)]) (fun i ns => ns = (l.take i).map (·.name) ∧ fieldsL ns (l.drop i) = fieldsL [] l) 0 [] (by omega) (by simp) ?_ ?_
  · rintro i ns hi ⟨hns, hI⟩ hw ih
    obtain ⟨x, hx, hg, hd⟩ := drop_get hi default
    have hxl := hn x (List.mem_of_getElem? hx)
    have hlen : ns.length ≤ 1099511627776 := by rw [hns]; simp; omega
    have hlen2 : ns.length + 1 ≤ 1099511627776 := by rw [hns]; simp; omega
    have h1 : (ns.length + 1) * 16 ≤ 140737488355328 := by omega
    rw [hd, fieldsL] at hI
    have hns2 : ns ++ [x.name] = (l.take (i + 1)).map (·.name) := by rw [hns, List.take_add_one, hx]; simp
    have ih := ih (ns ++ [x.name])
    rw [← hns2] at ih
    simp only [go_sem, ↓reduceIte, Nat.reduceAdd, Nat.reduceSub, Nat.reduceEqDiff, Nat.reduceLT, Nat.reduceLeDiff, Nat.reduceMul, Int.reduceNeg, Int.reduceToNat, Int.reduceEq, Int.reduceLT, Int.reduceLE, reduceCtorEq, hi, hw, hg, hxl, hlen, h1]
    generalize Ends S0 _ _ _ = Q at ih ⊢
    have hz : fieldsOk l = (fieldsL [] l && inB l.length 1 4) := rfl
    rw [← hI] at hz
    have hzI : fieldOk x = true → ns.contains x.name = false → fieldsL (ns ++ [x.name]) (l.drop (i + 1)) = fieldsL [] l := fun h1 h2 => by rw [← hI, h1, h2]; simp
    unfold fieldOk at hz hzI
    clear hI
    grind
  · rintro ns ⟨hns, hI⟩
    simp only [go_sem, ↓reduceIte, Nat.reduceAdd, Nat.reduceSub, Nat.reduceEqDiff, Nat.reduceLT, Nat.reduceLeDiff, Nat.reduceMul, Int.reduceNeg, Int.reduceToNat, Int.reduceEq, Int.reduceLT, Int.reduceLE, reduceCtorEq]
    rw [List.drop_length, fieldsL] at hI
    rw [fieldsOk, ← hI, Bool.true_and]
theorem fieldIx_eq {l : List Field} {i : Nat} {x : Field} (hx : l[i]? = some x) : (fieldIx l x.name = i) = (((l.take i).map (·.name)).contains x.name = false) := by
  have hi : i < l.length := (List.getElem?_eq_some_iff.1 hx).1
  have hany : (l.any fun f => f.name = x.name) = true := List.any_eq_true.2 ⟨x, List.mem_of_getElem? hx, by simp⟩
  rw [fieldIx, if_pos hany]
  refine propext ⟨fun h => ?_, fun h => ?_⟩
  · have h : (l.findIdx fun f => f.name = x.name) = i := by omega
    rw [List.contains_eq_any_beq, List.any_eq_false]
    intro y hy
    obtain ⟨f, hf, rfl⟩ := List.mem_map.1 hy
    obtain ⟨j, hj, rfl⟩ := List.mem_iff_getElem.1 hf
    have hj' : j < i := by simp at hj; omega
    have := List.not_of_lt_findIdx (p := fun f : Field => decide (f.name = x.name)) (xs := l) (i := j) (by rw [h]; exact hj')
    rw [List.getElem_take]
    simp at this ⊢
    exact fun h => this h.symm
  · have hI : ∀ f ∈ l.take i, decide (f.name = x.name) = false := by
      intro f hf
      have h2 := List.any_eq_false.1 (by rw [← List.contains_eq_any_beq]; exact h) f.name (List.mem_map.2 ⟨f, hf, rfl⟩)
      simp at h2 ⊢
      exact fun h => h2 h.symm
    have := (look_at hI hx (by simp)).2.1
    omega
@[go_sem] theorem specFieldsOk_R (l : List Field) (h : FSm l) : R S0 115 [.sl (l.map Field.pv)] = some ⟨[none], .bool (fieldsOk l)⟩ := by
  obtain ⟨hl, hn⟩ := h
  refine go115 rfl ?_; simp only [go_sem, ↓reduceIte, Nat.reduceAdd, Nat.reduceSub, Nat.reduceEqDiff, Nat.reduceLT, Nat.reduceLeDiff, Nat.reduceMul, Int.reduceNeg, Int.reduceToNat, Int.reduceEq, Int.reduceLT, Int.reduceLE, reduceCtorEq, Tryz.f115, hl]
  refine ends_for l.length (by omega) (fun i _ => mkSt [(0, .sl (l.map Field.pv)), (3, .int .i64 i)] []) (fun i _ => fieldsL ((l.take i).map (·.name)) (l.drop i) = fieldsL [] l) 0 () (by omega) (by simp) ?_ ?_
  · rintro i _ hi hI hw ih
    obtain ⟨x, hx, hg, hd⟩ := drop_get hi default
    have hxl := hn x (List.mem_of_getElem? hx)
    rw [hd, fieldsL] at hI
    have ih := ih ()
    have hix : (fieldIx l x.name = i) = (((l.take i).map (·.name)).contains x.name = false) := fieldIx_eq hx
    have hns2 : (l.take i).map (·.name) ++ [x.name] = (l.take (i + 1)).map (·.name) := by rw [List.take_add_one, hx]; simp
    rw [← hns2] at ih
    simp only [go_sem, ↓reduceIte, Nat.reduceAdd, Nat.reduceSub, Nat.reduceEqDiff, Nat.reduceLT, Nat.reduceLeDiff, Nat.reduceMul, Int.reduceNeg, Int.reduceToNat, Int.reduceEq, Int.reduceLT, Int.reduceLE, reduceCtorEq, hi, hw, hg, hxl, hl, hix]
    generalize Ends S0 _ _ _ = Q at ih ⊢
    generalize (l.take i).map (·.name) = ns at *
    have hz : fieldsOk l = (fieldsL [] l && inB l.length 1 4) := rfl
    rw [← hI] at hz
    have hzI : fieldOk x = true → ns.contains x.name = false → fieldsL (ns ++ [x.name]) (l.drop (i + 1)) = fieldsL [] l := fun h1 h2 => by rw [← hI, h1, h2]; simp
    have hk1 : inB x.kind 1 3 = (decide (x.kind = 1) || inB x.kind 2 3) := by simp only [inB]; grind
    unfold fieldOk at hz hzI
    rw [hk1] at hz hzI
    have hk2 : x.kind = 1 → inB x.kind 2 3 = false := by simp only [inB]; grind
    clear hI hix hk1
    grind
  · rintro _ hI
    simp only [go_sem, ↓reduceIte, Nat.reduceAdd, Nat.reduceSub, Nat.reduceEqDiff, Nat.reduceLT, Nat.reduceLeDiff, Nat.reduceMul, Int.reduceNeg, Int.reduceToNat, Int.reduceEq, Int.reduceLT, Int.reduceLE, reduceCtorEq]
    rw [List.drop_length, fieldsL] at hI
    rw [fieldsOk, ← hI, Bool.true_and]
structure Wrd where
  text : Str
  frm : Int
  till : Int
  deriving DecidableEq, Inhabited
def Wrd.pv (f : Wrd) : PV := .agg [.str f.text, .int .i64 f.frm, .int .i64 f.till]
instance : Enc Wrd.pv 3 := ⟨fun _ => by simp only [Wrd.pv, PV.free, PV.freeL, and_self], fun _ => by simp only [Wrd.pv, PV.okr, PV.okrL, and_self], fun _ => rfl⟩
instance : EncF Wrd.pv := ⟨fun _ => rfl⟩
instance : EncN Wrd.pv := ⟨fun _ => by simp only [Wrd.pv, PV.noR, PV.noRL, and_self]⟩
instance : EncS Wrd.pv Wrd.pv := ⟨fun _ => rfl⟩
@[go_sem] theorem Wrd.cells (f : Wrd) : f.pv.cells = [.str f.text, .int .i64 f.frm, .int .i64 f.till] := rfl
@[go_sem] theorem Wrd.snoc (l : List Wrd) (a : Str) (b c : Int) : l.map Wrd.pv ++ [.agg [.str a, .int .i64 b, .int .i64 c]] = (l ++ [Wrd.mk a b c]).map Wrd.pv := by simp [Wrd.pv]
def run : Str → Nat
  | [] => 0
  | b :: s => if wordB b then run s + 1 else 0
theorem run_le : ∀ s : Str, run s ≤ s.length
  | [] => Nat.le_refl _
  | b :: s => by
    simp only [run]
    have := run_le s
    split <;> simp <;> omega
def wordsAt (i : Nat) : Str → List Wrd
  | [] => []
  | b :: s => if h : wordB b = true then ⟨(b :: s).take (run (b :: s)), i, (i + run (b :: s) : Nat)⟩ :: wordsAt (i + run (b :: s)) ((b :: s).drop (run (b :: s))) else wordsAt (i + 1) s
termination_by s => s.length
decreasing_by
  · have : run (b :: s) = run s + 1 := by simp [run, h]
    simp; omega
  · simp
def words (s : Str) : List Wrd := wordsAt 0 s
def joinB : List Str → Str
  | [] => []
  | [w] => w
  | w :: ws => w ++ 32 :: joinB ws
theorem words_skip {b : UInt8} (s : Str) (i : Nat) (h : wordB b = false) : wordsAt i (b :: s) = wordsAt (i + 1) s := by
  rw [wordsAt, dif_neg (by rw [h]; simp)]
@[go_sem] theorem specWords_R (s : Str) (hs : s.length ≤ 1099511627776) : R S0 250 [.str s] = some ⟨[none], .slo 3 ((words s).map Wrd.pv)⟩ := by
  refine go250 rfl ?_; simp only [go_sem, ↓reduceIte, Nat.reduceAdd, Nat.reduceSub, Nat.reduceEqDiff, Nat.reduceLT, Nat.reduceLeDiff, Nat.reduceMul, Int.reduceNeg, Int.reduceToNat, Int.reduceEq, Int.reduceLT, Int.reduceLE, reduceCtorEq, Tryz.f250, hs]
  refine ends_wh (fun x : Nat × List Wrd => s.length - x.1) (fun x => mkSt [(0, .str s), (3, .own 0), (4, .int .i64 x.1)] [.slo 3 (x.2.map Wrd.pv)]) (fun x => x.1 ≤ s.length ∧ x.2.length ≤ x.1 ∧ x.2 ++ wordsAt x.1 (s.drop x.1) = words s) (0, []) ⟨by omega, Nat.le_refl _, rfl⟩ ?_
  rintro ⟨i, out⟩ ⟨hi, ho, hI⟩ ih
  simp only at hi ho hI
  by_cases hlt : i < s.length
  · simp only [go_sem, ↓reduceIte, Nat.reduceAdd, Nat.reduceSub, Nat.reduceEqDiff, Nat.reduceLT, Nat.reduceLeDiff, Nat.reduceMul, Int.reduceNeg, Int.reduceToNat, Int.reduceEq, Int.reduceLT, Int.reduceLE, reduceCtorEq, hlt]
    refine ends_wh (fun k : Nat => s.length - k) (fun k => mkSt [(0, .str s), (3, .own 0), (4, .int .i64 i), (5, .int .i64 k)] [.slo 3 (out.map Wrd.pv)]) (fun k => i ≤ k ∧ k ≤ s.length ∧ run (s.drop i) = (k - i) + run (s.drop k)) i ⟨Nat.le_refl _, hi, by simp⟩ ?_
    rintro k ⟨hk, hkl, hr⟩ ihk
    have hsp := drop_getD hlt (0 : UInt8)
    have hi1 : IntKind.i64.wrap ((i : Int) + 1) = ((i + 1 : Nat) : Int) := wrap_in (by omega) (by omega)
    have hcut : cut s (i : Int) (k : Int) = (s.drop i).take (k - i) := by simp only [cut, Int.toNat_natCast, List.drop_take]
    have f1 := fun (h : k = i) (h0 : run (s.drop k) = 0) => ih (i + 1, out) (by simp only; omega) ⟨hlt, by simp only; omega, by
      have hb : wordB (s.getD i 0) = false := by
        cases hb : wordB (s.getD i 0) with
        | false => rfl
        | true => rw [h, hsp, run, if_pos hb] at h0; omega
      rw [hsp, words_skip _ _ hb] at hI
      exact hI⟩
    have f2 := fun (h : ¬ k = i) (h0 : run (s.drop k) = 0) => ih (k, out ++ [⟨cut s (i : Int) (k : Int), i, k⟩]) (by simp only; omega) ⟨hkl, by simp; omega, by
      have hb : wordB (s.getD i 0) = true := by
        cases hb : wordB (s.getD i 0) with
        | true => rfl
        | false => rw [hsp, run, if_neg (by rw [hb]; simp), h0] at hr; omega
      have e : i + (k - i) = k := by omega
      rw [h0, Nat.add_zero] at hr
      rw [hsp, wordsAt, dif_pos hb, ← hsp, hr, e, List.drop_drop, e] at hI
      simp only [hcut, List.append_assoc]
      exact hI⟩
    simp only at f1 f2
    by_cases hkl2 : k < s.length
    · have hk1 : IntKind.i64.wrap ((k : Int) + 1) = ((k + 1 : Nat) : Int) := wrap_in (by omega) (by omega)
      have hdk := drop_getD hkl2 (0 : UInt8)
      simp only [go_sem, ↓reduceIte, Nat.reduceAdd, Nat.reduceSub, Nat.reduceEqDiff, Nat.reduceLT, Nat.reduceLeDiff, Nat.reduceMul, Int.reduceNeg, Int.reduceToNat, Int.reduceEq, Int.reduceLT, Int.reduceLE, reduceCtorEq, hkl2, hk1, hi1]
      refine ⟨fun h => ihk (k + 1) (by omega) ⟨by omega, by omega, ?_⟩, fun h => ?_⟩
      · rw [hr, hdk, run, if_pos h]; omega
      · have h0 : run (s.drop k) = 0 := by rw [hdk, run, if_neg (by rw [h]; simp)]
        exact ⟨fun h => f1 h h0, fun h => ⟨⟨hk, hkl⟩, by omega, f2 h h0⟩⟩
    · have h0 : run (s.drop k) = 0 := by rw [List.drop_of_length_le (by omega)]; rfl
      simp only [go_sem, ↓reduceIte, Nat.reduceAdd, Nat.reduceSub, Nat.reduceEqDiff, Nat.reduceLT, Nat.reduceLeDiff, Nat.reduceMul, Int.reduceNeg, Int.reduceToNat, Int.reduceEq, Int.reduceLT, Int.reduceLE, reduceCtorEq, hkl2, hi1]
      exact ⟨fun h => f1 h h0, fun h => ⟨⟨hk, hkl⟩, by omega, f2 h h0⟩⟩
  · simp only [go_sem, ↓reduceIte, Nat.reduceAdd, Nat.reduceSub, Nat.reduceEqDiff, Nat.reduceLT, Nat.reduceLeDiff, Nat.reduceMul, Int.reduceNeg, Int.reduceToNat, Int.reduceEq, Int.reduceLT, Int.reduceLE, reduceCtorEq, hlt]
    have : i = s.length := by omega
    subst this
    rw [List.drop_length, wordsAt, List.append_nil] at hI
    rw [hI]
theorem run_drop : ∀ s : Str, run (s.drop (run s)) = 0
  | [] => rfl
  | b :: s => by
    simp only [run]
    split
    · exact run_drop s
    · rename_i h; simp [run, h]
theorem words_len (s : Str) (i : Nat) : (wordsAt i s).length ≤ s.length ∧ (joinB ((wordsAt i s).map (·.text))).length ≤ s.length := by
  induction hn : s.length using Nat.strongRecOn generalizing s i with
  | _ n ih =>
    cases s with
    | nil => rw [wordsAt]; simp [joinB]
    | cons b s =>
      simp at hn
      rw [wordsAt]
      split
      · rename_i hb
        have hr : run (b :: s) = run s + 1 := by simp [run, hb]
        have hle := run_le s
        rw [hr, List.drop_succ_cons, List.take_succ_cons]
        have hd := run_drop s
        cases hc : s.drop (run s) with
        | nil =>
          rw [wordsAt]
          simp [joinB]
          omega
        | cons c r =>
          have hl : s.length = run s + (r.length + 1) := by
            have := congrArg List.length hc
            simp at this
            omega
          rw [hc] at hd
          have hcw : wordB c = false := by
            cases h : wordB c with
            | false => rfl
            | true => simp [run, h] at hd
          rw [words_skip _ _ hcw]
          have ih2 := ih r.length (by omega) r (i + (run s + 1) + 1) rfl
          generalize wordsAt (i + (run s + 1) + 1) r = ws at ih2 ⊢
          cases ws with
          | nil =>
            simp [joinB]
            omega
          | cons w ws =>
            simp only [List.map_cons, joinB, List.length_cons, List.length_append, List.length_take] at ih2 ⊢
            omega
      · have := ih s.length (by omega) s (i + 1) rfl
        omega
end Go.Proofs.YtmanllfmgghadaaGreatDoor.PVE
