/- Fields, and words of a text. -/
import Derived.Test.YtmanllfmgghadaaGreatDoorT1
set_option linter.unusedVariables false
set_option linter.unusedSimpArgs false
set_option maxRecDepth 100000
namespace Go.Proofs.YtmanllfmgghadaaGreatDoor.PVE
open PV
structure Field where
  name : Str
  kind : Int
  weight : Int
  deriving DecidableEq, Inhabited
def Field.pv (f : Field) : PV := .agg [.str f.name, .int .i64 f.kind, .int .i64 f.weight]
instance : Enc Field.pv 3 := ⟨fun _ => by simp only [Field.pv, PV.free, PV.freeL, and_self], fun _ => by simp only [Field.pv, PV.okr, PV.okrL, and_self], fun _ => rfl⟩
instance : EncF Field.pv := ⟨fun _ => rfl⟩
instance : EncN Field.pv := ⟨fun _ => by simp only [Field.pv, PV.noR, PV.noRL, and_self]⟩
instance : EncS Field.pv Field.pv := ⟨fun _ => rfl⟩
@[go_sem] theorem Field.cells (f : Field) : f.pv.cells = [.str f.name, .int .i64 f.kind, .int .i64 f.weight] := rfl
@[go_sem] theorem Field.snoc (l : List Field) (a : Str) (b c : Int) : l.map Field.pv ++ [.agg [.str a, .int .i64 b, .int .i64 c]] = (l ++ [Field.mk a b c]).map Field.pv := by simp [Field.pv]
def fieldOf (l : List Field) (n : Str) : Field := (l.find? fun f => f.name = n).getD ⟨[], 0, 0⟩
def fieldOk (f : Field) : Bool := nameOk f.name && inB f.kind 1 3 && (if f.kind = 1 then inB f.weight 1 9 else f.weight = 0)
def fieldsL : List Str → List Field → Bool
  | _, [] => true
  | ns, f :: l => fieldOk f && !ns.contains f.name && fieldsL (ns ++ [f.name]) l
def fieldsOk (l : List Field) : Bool := fieldsL [] l && inB l.length 1 4
structure Wrd where
  text : Str
  frm : Int
  till : Int
  deriving DecidableEq, Inhabited
def Wrd.pv (f : Wrd) : PV := .agg [.str f.text, .int .i64 f.frm, .int .i64 f.till]
instance : Enc Wrd.pv 3 := ⟨fun _ => by simp only [Wrd.pv, PV.free, PV.freeL, and_self], fun _ => by simp only [Wrd.pv, PV.okr, PV.okrL, and_self], fun _ => rfl⟩
instance : EncF Wrd.pv := ⟨fun _ => rfl⟩
instance : EncN Wrd.pv := ⟨fun _ => by simp only [Wrd.pv, PV.noR, PV.noRL, and_self]⟩
instance : EncS Wrd.pv Wrd.pv := ⟨fun _ => rfl⟩
@[go_sem] theorem Wrd.cells (f : Wrd) : f.pv.cells = [.str f.text, .int .i64 f.frm, .int .i64 f.till] := rfl
@[go_sem] theorem Wrd.snoc (l : List Wrd) (a : Str) (b c : Int) : l.map Wrd.pv ++ [.agg [.str a, .int .i64 b, .int .i64 c]] = (l ++ [Wrd.mk a b c]).map Wrd.pv := by simp [Wrd.pv]
def run : Str → Nat
  | [] => 0
  | b :: s => if wordB b then run s + 1 else 0
theorem run_le : ∀ s : Str, run s ≤ s.length
  | [] => Nat.le_refl _
  | b :: s => by
    simp only [run]
    have := run_le s
    split <;> simp <;> omega
def wordsAt (i : Nat) : Str → List Wrd
  | [] => []
  | b :: s => if h : wordB b = true then ⟨(b :: s).take (run (b :: s)), i, (i + run (b :: s) : Nat)⟩ :: wordsAt (i + run (b :: s)) ((b :: s).drop (run (b :: s))) else wordsAt (i + 1) s
termination_by s => s.length
decreasing_by
  · have : run (b :: s) = run s + 1 := by simp [run, h]
    simp; omega
  · simp
def words (s : Str) : List Wrd := wordsAt 0 s
def joinB : List Str → Str
  | [] => []
  | [w] => w
  | w :: ws => w ++ 32 :: joinB ws
def cntW (s : Str) : Int := if joinB ((words s).map (·.text)) = s then (words s).length else 0
theorem words_skip {b : UInt8} (s : Str) (i : Nat) (h : wordB b = false) : wordsAt i (b :: s) = wordsAt (i + 1) s := by
  rw [wordsAt, dif_neg (by rw [h]; simp)]
@[go_sem] theorem specWords_R (s : Str) (hs : s.length ≤ 1099511627776) : R S0 250 [.str s] = some ⟨[none], .slo 3 ((words s).map Wrd.pv)⟩ := by
  refine go250 rfl ?_; simp only [go_sem, ↓reduceIte, Nat.reduceAdd, Nat.reduceSub, Nat.reduceEqDiff, Nat.reduceLT, Nat.reduceLeDiff, Nat.reduceMul, Int.reduceNeg, Int.reduceToNat, Int.reduceEq, Int.reduceLT, Int.reduceLE, reduceCtorEq, Tryz.f250, hs]
  refine ends_wh (fun x : Nat × List Wrd => s.length - x.1) (fun x => mkSt [(0, .str s), (3, .own 0), (4, .int .i64 x.1)] [.slo 3 (x.2.map Wrd.pv)]) (fun x => x.1 ≤ s.length ∧ x.2.length ≤ x.1 ∧ x.2 ++ wordsAt x.1 (s.drop x.1) = words s) (0, []) ⟨by omega, Nat.le_refl _, rfl⟩ ?_
  rintro ⟨i, out⟩ ⟨hi, ho, hI⟩ ih
  simp only at hi ho hI
  by_cases hlt : i < s.length
  · simp only [go_sem, ↓reduceIte, Nat.reduceAdd, Nat.reduceSub, Nat.reduceEqDiff, Nat.reduceLT, Nat.reduceLeDiff, Nat.reduceMul, Int.reduceNeg, Int.reduceToNat, Int.reduceEq, Int.reduceLT, Int.reduceLE, reduceCtorEq, hlt]
    refine ends_wh (fun k : Nat => s.length - k) (fun k => mkSt [(0, .str s), (3, .own 0), (4, .int .i64 i), (5, .int .i64 k)] [.slo 3 (out.map Wrd.pv)]) (fun k => i ≤ k ∧ k ≤ s.length ∧ run (s.drop i) = (k - i) + run (s.drop k)) i ⟨Nat.le_refl _, hi, by simp⟩ ?_
    rintro k ⟨hk, hkl, hr⟩ ihk
    have hsp := drop_getD hlt (0 : UInt8)
    have hi1 : IntKind.i64.wrap ((i : Int) + 1) = ((i + 1 : Nat) : Int) := wrap_in (by omega) (by omega)
    have hcut : cut s (i : Int) (k : Int) = (s.drop i).take (k - i) := by simp only [cut, Int.toNat_natCast, List.drop_take]
    have f1 := fun (h : k = i) (h0 : run (s.drop k) = 0) => ih (i + 1, out) (by simp only; omega) ⟨hlt, by simp only; omega, by
      have hb : wordB (s.getD i 0) = false := by
        cases hb : wordB (s.getD i 0) with
        | false => rfl
        | true => rw [h, hsp, run, if_pos hb] at h0; omega
      rw [hsp, words_skip _ _ hb] at hI
      exact hI⟩
    have f2 := fun (h : ¬ k = i) (h0 : run (s.drop k) = 0) => ih (k, out ++ [⟨cut s (i : Int) (k : Int), i, k⟩]) (by simp only; omega) ⟨hkl, by simp; omega, by
      have hb : wordB (s.getD i 0) = true := by
        cases hb : wordB (s.getD i 0) with
        | true => rfl
        | false => rw [hsp, run, if_neg (by rw [hb]; simp), h0] at hr; omega
      have e : i + (k - i) = k := by omega
      rw [h0, Nat.add_zero] at hr
      rw [hsp, wordsAt, dif_pos hb, ← hsp, hr, e, List.drop_drop, e] at hI
      simp only [hcut, List.append_assoc]
      exact hI⟩
    simp only at f1 f2
    by_cases hkl2 : k < s.length
    · have hk1 : IntKind.i64.wrap ((k : Int) + 1) = ((k + 1 : Nat) : Int) := wrap_in (by omega) (by omega)
      have hdk := drop_getD hkl2 (0 : UInt8)
      simp only [go_sem, ↓reduceIte, Nat.reduceAdd, Nat.reduceSub, Nat.reduceEqDiff, Nat.reduceLT, Nat.reduceLeDiff, Nat.reduceMul, Int.reduceNeg, Int.reduceToNat, Int.reduceEq, Int.reduceLT, Int.reduceLE, reduceCtorEq, hkl2, hk1, hi1]
      refine ⟨fun h => ihk (k + 1) (by omega) ⟨by omega, by omega, ?_⟩, fun h => ?_⟩
      · rw [hr, hdk, run, if_pos h]; omega
      · have h0 : run (s.drop k) = 0 := by rw [hdk, run, if_neg (by rw [h]; simp)]
        exact ⟨fun h => f1 h h0, fun h => ⟨⟨hk, hkl⟩, by omega, f2 h h0⟩⟩
    · have h0 : run (s.drop k) = 0 := by rw [List.drop_of_length_le (by omega)]; rfl
      simp only [go_sem, ↓reduceIte, Nat.reduceAdd, Nat.reduceSub, Nat.reduceEqDiff, Nat.reduceLT, Nat.reduceLeDiff, Nat.reduceMul, Int.reduceNeg, Int.reduceToNat, Int.reduceEq, Int.reduceLT, Int.reduceLE, reduceCtorEq, hkl2, hi1]
      exact ⟨fun h => f1 h h0, fun h => ⟨⟨hk, hkl⟩, by omega, f2 h h0⟩⟩
  · simp only [go_sem, ↓reduceIte, Nat.reduceAdd, Nat.reduceSub, Nat.reduceEqDiff, Nat.reduceLT, Nat.reduceLeDiff, Nat.reduceMul, Int.reduceNeg, Int.reduceToNat, Int.reduceEq, Int.reduceLT, Int.reduceLE, reduceCtorEq, hlt]
    have : i = s.length := by omega
    subst this
    rw [List.drop_length, wordsAt, List.append_nil] at hI
    rw [hI]
theorem joinB_snoc : ∀ (l : List Str) (w : Str), joinB (l ++ [w]) = joinB l ++ (if l = [] then [] else [32]) ++ w
  | [], w => by simp [joinB]
  | [a], w => by simp [joinB]
  | a :: b :: l, w => by
    have := joinB_snoc (b :: l) w
    simp only [List.cons_append, joinB] at this ⊢
    rw [this]
    simp
theorem joinB_split : ∀ s : Str, joinB (splitB 32 s) = s
  | [] => rfl
  | b :: s => by
    have ih := joinB_split s
    have hne := splitB_ne 32 s
    cases h : splitB 32 s with
    | nil => exact absurd h hne
    | cons p ps =>
      rw [h] at ih
      simp only [splitB, h]
      split
      · rename_i hb; subst hb; simp only [joinB, ih]; rfl
      · cases ps with
        | nil => simp only [joinB] at ih ⊢; rw [ih]
        | cons q qs => simp only [joinB] at ih ⊢; rw [← ih]; rfl
theorem split_word : ∀ {w : Str} (r : Str), w.all wordB = true → splitB 32 (w ++ 32 :: r) = w :: splitB 32 r
  | [], r, _ => by simp [splitB]
  | b :: w, r, h => by
    simp only [List.all_cons, Bool.and_eq_true] at h
    have hb : ¬ b = 32 := by rintro rfl; exact absurd h.1 (by decide)
    simp only [List.cons_append, splitB, hb, if_false, split_word r h.2]
theorem split_one : ∀ {w : Str}, w.all wordB = true → splitB 32 w = [w]
  | [], _ => rfl
  | b :: w, h => by
    simp only [List.all_cons, Bool.and_eq_true] at h
    have hb : ¬ b = 32 := by rintro rfl; exact absurd h.1 (by decide)
    simp only [splitB, hb, if_false, split_one h.2]
theorem split_join : ∀ {l : List Str}, l ≠ [] → (∀ w ∈ l, w.all wordB = true) → splitB 32 (joinB l) = l
  | [], h, _ => absurd rfl h
  | [w], _, h => split_one (h w (by simp))
  | w :: v :: l, _, h => by
    rw [joinB, split_word _ (h w (by simp)), split_join (by simp) fun x hx => h x (List.mem_cons_of_mem _ hx)]
    simp
theorem run_word : ∀ {w : Str} (r : Str), w.all wordB = true → (∀ b, r.head? = some b → wordB b = false) → run (w ++ r) = w.length
  | [], [], _, _ => rfl
  | [], b :: r, _, h => by simp [run, h b rfl]
  | b :: w, r, h, hr => by
    simp only [List.all_cons, Bool.and_eq_true] at h
    simp [run, h.1, run_word r h.2 hr]
theorem words_word {w : Str} (r : Str) (i : Nat) (hw : isWord w = true) (hr : ∀ b, r.head? = some b → wordB b = false) : wordsAt i (w ++ r) = ⟨w, i, (i + w.length : Nat)⟩ :: wordsAt (i + w.length) r := by
  simp only [isWord, Bool.and_eq_true, bne_iff_ne, ne_eq] at hw
  have hrun := run_word r hw.1 hr
  cases w with
  | nil => exact absurd rfl hw.2
  | cons b w =>
    have hb : wordB b = true := by simpa using (List.all_eq_true.1 hw.1) b (by simp)
    rw [List.cons_append, wordsAt, dif_pos hb, ← List.cons_append, hrun]
    simp
theorem words_join : ∀ {l : List Str} (i : Nat), (∀ w ∈ l, isWord w = true) → (wordsAt i (joinB l)).map (·.text) = l
  | [], i, _ => by simp [joinB, wordsAt]
  | [w], i, h => by
    have := words_word [] i (h w (by simp)) (by simp)
    rw [List.append_nil] at this
    simp [joinB, this, wordsAt]
  | w :: v :: l, i, h => by
    rw [joinB, words_word (32 :: joinB (v :: l)) i (h w (by simp)) (fun b hb => by simp at hb; subst hb; decide), words_skip _ _ (by decide), List.map_cons, words_join _ fun x hx => h x (List.mem_cons_of_mem _ hx)]
    simp
theorem run_all : ∀ s : Str, (s.take (run s)).all wordB = true
  | [] => rfl
  | b :: s => by
    simp only [run]
    split
    · rename_i h; simp only [List.take_succ_cons, List.all_cons, h, run_all s, Bool.and_self]
    · rfl
theorem words_are (s : Str) (i : Nat) : ∀ w ∈ wordsAt i s, isWord w.text = true := by
  induction hn : s.length using Nat.strongRecOn generalizing s i with
  | _ n ih =>
    cases s with
    | nil => intro w hw; rw [wordsAt] at hw; cases hw
    | cons b s =>
      intro w hw
      rw [wordsAt] at hw
      split at hw
      · rename_i hb
        have hr : run (b :: s) = run s + 1 := by simp [run, hb]
        rcases List.mem_cons.1 hw with rfl | hw
        · rw [isWord, run_all, hr]
          simp
        · refine ih _ ?_ _ _ rfl w hw
          rw [List.length_drop, hr]; simp at hn ⊢; omega
      · exact ih _ (by simp at hn; omega) s _ rfl w hw
theorem cntW_eq (s : Str) : cntW s = if (splitB 32 s).all isWord then ((splitB 32 s).length : Int) else 0 := by
  have hlen : (words s).length = ((words s).map (·.text)).length := by simp
  unfold cntW
  by_cases h : (splitB 32 s).all isWord = true
  · have h2 := words_join (l := splitB 32 s) 0 (List.all_eq_true.1 h)
    rw [joinB_split] at h2
    rw [if_pos h, hlen, words, h2, joinB_split, if_pos rfl]
  · rw [if_neg h]
    split
    · rename_i h2
      by_cases h3 : (words s).map (·.text) = []
      · rw [hlen, h3]; rfl
      · refine absurd ?_ h
        rw [← h2, split_join h3]
        · refine List.all_eq_true.2 fun w hw => ?_
          obtain ⟨x, hx, rfl⟩ := List.mem_map.1 hw
          exact words_are s 0 x hx
        · intro w hw
          obtain ⟨x, hx, rfl⟩ := List.mem_map.1 hw
          have := words_are s 0 x hx
          simp only [isWord, Bool.and_eq_true] at this
          exact this.1
    · rfl
theorem run_drop : ∀ s : Str, run (s.drop (run s)) = 0
  | [] => rfl
  | b :: s => by
    simp only [run]
    split
    · exact run_drop s
    · rename_i h; simp [run, h]
theorem words_len (s : Str) (i : Nat) : (wordsAt i s).length ≤ s.length ∧ (joinB ((wordsAt i s).map (·.text))).length ≤ s.length := by
  induction hn : s.length using Nat.strongRecOn generalizing s i with
  | _ n ih =>
    cases s with
    | nil => rw [wordsAt]; simp [joinB]
    | cons b s =>
      simp at hn
      rw [wordsAt]
      split
      · rename_i hb
        have hr : run (b :: s) = run s + 1 := by simp [run, hb]
        have hle := run_le s
        rw [hr, List.drop_succ_cons, List.take_succ_cons]
        have hd := run_drop s
        cases hc : s.drop (run s) with
        | nil =>
          rw [wordsAt]
          simp [joinB]
          omega
        | cons c r =>
          have hl : s.length = run s + (r.length + 1) := by
            have := congrArg List.length hc
            simp at this
            omega
          rw [hc] at hd
          have hcw : wordB c = false := by
            cases h : wordB c with
            | false => rfl
            | true => simp [run, h] at hd
          rw [words_skip _ _ hcw]
          have ih2 := ih r.length (by omega) r (i + (run s + 1) + 1) rfl
          generalize wordsAt (i + (run s + 1) + 1) r = ws at ih2 ⊢
          cases ws with
          | nil =>
            simp [joinB]
            omega
          | cons w ws =>
            simp only [List.map_cons, joinB, List.length_cons, List.length_append, List.length_take] at ih2 ⊢
            omega
      · have := ih s.length (by omega) s (i + 1) rfl
        omega
theorem joinB_len : ∀ (l : List Str) (i : Nat), (joinB (l.take i)).length ≤ (joinB l).length
  | [], i => by simp
  | [w], 0 => by simp [joinB]
  | [w], i + 1 => by simp [joinB]
  | w :: v :: l, 0 => by simp [joinB]
  | w :: v :: l, 1 => by simp [joinB]
  | w :: v :: l, i + 2 => by
    have := joinB_len (v :: l) (i + 1)
    simp only [List.take_succ_cons, joinB, List.length_append, List.length_cons] at this ⊢
    omega
theorem joinB_mem : ∀ {l : List Str} {w : Str}, w ∈ l → w.length ≤ (joinB l).length
  | [v], w, h => by simp at h; subst h; exact Nat.le_refl _
  | v :: u :: l, w, h => by
    simp only [joinB, List.length_append, List.length_cons]
    rcases List.mem_cons.1 h with rfl | h
    · omega
    · have := joinB_mem h
      omega
@[go_sem] theorem l5Words_R (s : Str) (hs : s.length ≤ 1099511627776) : R S0 217 [.str s] = some ⟨[none], .int .i64 (cntW s)⟩ := by
  refine go217 rfl ?_; simp only [go_sem, ↓reduceIte, Nat.reduceAdd, Nat.reduceSub, Nat.reduceEqDiff, Nat.reduceLT, Nat.reduceLeDiff, Nat.reduceMul, Int.reduceNeg, Int.reduceToNat, Int.reduceEq, Int.reduceLT, Int.reduceLE, reduceCtorEq, Tryz.f217, hs]
  have hwl : (words s).length ≤ s.length ∧ (joinB ((words s).map (·.text))).length ≤ s.length := words_len s 0
  have hjl := fun i => joinB_len ((words s).map (·.text)) i
  refine ends_for (words s).length (by omega) (fun i _ => mkSt [(0, .str s), (3, .own 0), (4, .str (joinB (((words s).map (·.text)).take i))), (5, .int .i64 i)] [.slo 3 ((words s).map Wrd.pv)]) (fun i _ => True) 0 () (by omega) trivial ?_ ?_
  · rintro i _ hi - hw ih
    obtain ⟨x, hx, hg, hd⟩ := drop_get hi default
    have ih := ih () trivial
    have hxt : ((words s).map (·.text))[i]? = some x.text := by rw [List.getElem?_map, hx]; rfl
    have hj1 := hjl (i + 1)
    rw [List.take_add_one, hxt, Option.toList_some, joinB_snoc] at ih hj1
    by_cases h0 : 0 < i
    · have h2 : ((words s).map (·.text)).take i ≠ [] := by
        intro h
        have := congrArg List.length h
        rw [List.length_take, List.length_map, List.length_nil] at this
        omega
      rw [if_neg h2, List.append_assoc, List.cons_append, List.nil_append] at ih hj1
      have h3 : (0 : Int) < i := by omega
      simp only [List.length_append, List.length_cons] at hj1
      simp only [go_sem, ↓reduceIte, Nat.reduceAdd, Nat.reduceSub, Nat.reduceEqDiff, Nat.reduceLT, Nat.reduceLeDiff, Nat.reduceMul, Int.reduceNeg, Int.reduceToNat, Int.reduceEq, Int.reduceLT, Int.reduceLE, reduceCtorEq, hi, hw, hg, hx, h3]
      refine ⟨?_, ?_, ih⟩ <;> omega
    · have h2 : ((words s).map (·.text)).take i = [] := by rw [show i = 0 by omega]; rfl
      have h3 : ¬ (0 : Int) < i := by omega
      rw [if_pos h2, List.append_nil] at ih hj1
      simp only [List.length_append, List.length_cons] at hj1
      simp only [go_sem, ↓reduceIte, Nat.reduceAdd, Nat.reduceSub, Nat.reduceEqDiff, Nat.reduceLT, Nat.reduceLeDiff, Nat.reduceMul, Int.reduceNeg, Int.reduceToNat, Int.reduceEq, Int.reduceLT, Int.reduceLE, reduceCtorEq, hi, hw, hg, hx, h3]
      refine ⟨?_, ih⟩
      omega
  · rintro _ -
    simp only [go_sem, ↓reduceIte, Nat.reduceAdd, Nat.reduceSub, Nat.reduceEqDiff, Nat.reduceLT, Nat.reduceLeDiff, Nat.reduceMul, Int.reduceNeg, Int.reduceToNat, Int.reduceEq, Int.reduceLT, Int.reduceLE, reduceCtorEq]
    rw [List.take_of_length_le (by simp), cntW]
    split <;> simp_all
def wordsOk (s : Str) (lo hi : Int) : Bool := (splitB 32 s).all isWord && inB (splitB 32 s).length lo hi && decide (s.length ≤ 60)
@[go_sem] theorem wordsOk_R (s : Str) (lo hi : Int) (hs : s.length ≤ 1099511627776) : R S0 168 [.str s, .int .i64 lo, .int .i64 hi] = some ⟨[none, none, none], .bool (wordsOk s lo hi)⟩ := by
  have hl : (splitB 32 s).length ≤ s.length + 1 := by
    have : s.count 32 ≤ s.length := List.count_le_length
    rw [splitB_length]; omega
  have hp : ∀ w ∈ splitB 32 s, w.length ≤ s.length := fun w hw => by
    have := joinB_mem hw
    rwa [joinB_split] at this
  refine go168 rfl ?_; simp only [go_sem, ↓reduceIte, Nat.reduceAdd, Nat.reduceSub, Nat.reduceEqDiff, Nat.reduceLT, Nat.reduceLeDiff, Nat.reduceMul, Int.reduceNeg, Int.reduceToNat, Int.reduceEq, Int.reduceLT, Int.reduceLE, reduceCtorEq, Tryz.f168, hs]
  refine ends_for (splitB 32 s).length (by omega) (fun i _ => mkSt [(0, .str s), (1, .int .i64 lo), (2, .int .i64 hi), (7, .sl ((splitB 32 s).map .str)), (12, .sl ((splitB 32 s).map .str)), (13, .int .i64 (splitB 32 s).length), (14, .int .i64 i)] []) (fun i _ => ((splitB 32 s).drop i).all isWord = (splitB 32 s).all isWord) 0 () (by omega) rfl ?_ ?_
  · rintro i _ hi' hI hw ih
    obtain ⟨x, hx, hg, hd⟩ := drop_get hi' default
    have hxl : x.length ≤ 1099511627776 := by have := hp x (List.mem_of_getElem? hx); omega
    rw [hd, List.all_cons] at hI
    simp only [go_sem, ↓reduceIte, Nat.reduceAdd, Nat.reduceSub, Nat.reduceEqDiff, Nat.reduceLT, Nat.reduceLeDiff, Nat.reduceMul, Int.reduceNeg, Int.reduceToNat, Int.reduceEq, Int.reduceLT, Int.reduceLE, reduceCtorEq, hi', hw, hg, hxl]
    have ih := ih ()
    generalize Ends S0 _ _ _ = Q at ih ⊢
    grind [wordsOk]
  · rintro _ hI
    rw [List.drop_length, List.all_nil] at hI
    simp only [go_sem, ↓reduceIte, Nat.reduceAdd, Nat.reduceSub, Nat.reduceEqDiff, Nat.reduceLT, Nat.reduceLeDiff, Nat.reduceMul, Int.reduceNeg, Int.reduceToNat, Int.reduceEq, Int.reduceLT, Int.reduceLE, reduceCtorEq]
    grind [wordsOk, inB]
end Go.Proofs.YtmanllfmgghadaaGreatDoor.PVE
