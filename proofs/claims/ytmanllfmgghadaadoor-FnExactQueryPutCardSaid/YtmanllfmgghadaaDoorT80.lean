/- The text of a question, and reading it back: plain laws. -/
import Derived.Test.YtmanllfmgghadaaDoorT19
import Derived.Lib.ItoaLen
set_option linter.unusedVariables false
set_option linter.unusedSimpArgs false
set_option maxRecDepth 100000
namespace Go.Proofs.YtmanllfmgghadaaDoor.PVE
open PV Query
def putN (k : Int) (f t : Str) (lo hi : Int) (ps : List Str) : Str :=
  let h := if f = [] then [] else f ++ [58]
  if k = 1 then [42] else if k = 2 then h ++ t else if k = 3 then h ++ 34 :: (t ++ [34]) else if k = 4 then h ++ (t ++ [42])
  else if k = 5 then 64 :: (h ++ (Lib.itoa lo ++ 46 :: 46 :: Lib.itoa hi)) else if k = 6 then 64 :: (h ++ 123 :: (t ++ [125]))
  else if k = 7 then 40 :: (Lib.join ps [32] ++ [41]) else if k = 8 then 40 :: (Lib.join ps [32, 124, 32] ++ [41]) else 45 :: ps.headD []
mutual
def putQ : Query → Str | .mk k f t lo hi p => putN k f t lo hi (putL p)
def putL : List Query → List Str
  | [] => []
  | q :: l => putQ q :: putL l
end
theorem putL_map : ∀ l : List Query, putL l = l.map putQ
  | [] => rfl
  | q :: l => by rw [putL, putL_map l, List.map_cons]
theorem putQ_eq : ∀ q : Query, putQ q = putN q.kind q.field q.text q.low q.high (q.parts.map putQ)
  | .mk k f t lo hi p => by rw [putQ, putL_map]; rfl
theorem join_len (sep : Str) : ∀ (l : List Str) (m : Nat), (∀ s ∈ l, s.length ≤ m) → (Lib.join l sep).length ≤ l.length * (m + sep.length)
  | [], m, _ => by simp [Lib.join]
  | [x], m, h => by simp [Lib.join]; have := h x (by simp); omega
  | x :: y :: l, m, h => by
    have ih := join_len sep (y :: l) m fun s hs => h s (List.mem_cons_of_mem _ hs)
    have hx := h x (by simp)
    have e : Lib.join (x :: y :: l) sep = x ++ (sep ++ Lib.join (y :: l) sep) := by simp [Lib.join]
    rw [e, List.length_append, List.length_append, List.length_cons, Nat.add_mul, Nat.one_mul]
    omega
theorem join_snoc (sep : Str) : ∀ (l : List Str) (w : Str), Lib.join (l ++ [w]) sep = Lib.join l sep ++ ((if l = [] then [] else sep) ++ w)
  | [], w => by simp [Lib.join]
  | [x], w => by simp [Lib.join]
  | x :: y :: l, w => by
    have ih := join_snoc sep (y :: l) w
    have e : ∀ z l, Lib.join (x :: z :: l) sep = x ++ (sep ++ Lib.join (z :: l) sep) := fun z l => by simp [Lib.join]
    rw [if_neg (by simp)] at ih
    rw [List.cons_append, List.cons_append, e, e, ← List.cons_append, ih, if_neg (by simp)]
    simp
def tailT (sg : Str) (l : List Query) : Str := l.flatMap fun p => sg ++ putQ p
theorem join_tail (sg : Str) : ∀ (p : Query) (l : List Query), Lib.join ((p :: l).map putQ) sg = putQ p ++ tailT sg l
  | p, [] => by simp [Lib.join, tailT]
  | p, y :: l => by
    have ih := join_tail sg y l
    have e : ∀ x z l, Lib.join (x :: z :: l) sg = x ++ (sg ++ Lib.join (z :: l) sg) := fun x z l => by simp [Lib.join]
    rw [List.map_cons, List.map_cons, e, ← List.map_cons, ih, tailT, tailT, List.flatMap_cons, List.append_assoc]
def FN (f : Str) : Prop := f = [] ∨ nameOk f = true
theorem nameL_word : ∀ (s : Str) (i : Nat), nameL i s = true → s.all wordB = true
  | [], _, _ => rfl
  | b :: l, i, h => by
    rw [nameL, Bool.and_eq_true] at h
    rw [List.all_cons, nameL_word l _ h.2, Bool.and_true, wordB, wordI]
    have := h.1
    cases h1 : inB b.toNat 97 122 with
    | true => simp
    | false => rw [h1, Bool.false_or, Bool.and_eq_true] at this; simp [this.2]
theorem name_word {s : Str} (h : nameOk s = true) : s.all wordB = true ∧ s ≠ [] ∧ s.length ≤ 8 := by
  rw [nameOk, Bool.and_eq_true] at h
  refine ⟨nameL_word s 0 h.1, ?_, ?_⟩
  · rintro rfl; exact absurd h.2 (by decide)
  · have := h.2; rw [inB, Bool.and_eq_true, decide_eq_true_eq, decide_eq_true_eq] at this; omega
theorem wordB_no {b : UInt8} (h : wordB b = true) : b ≠ 32 ∧ b ≠ 34 ∧ b ≠ 40 ∧ b ≠ 41 ∧ b ≠ 42 ∧ b ≠ 45 ∧ b ≠ 46 ∧ b ≠ 58 ∧ b ≠ 64 ∧ b ≠ 123 ∧ b ≠ 124 ∧ b ≠ 125 := by
  refine ⟨?_, ?_, ?_, ?_, ?_, ?_, ?_, ?_, ?_, ?_, ?_, ?_⟩ <;> (rintro rfl; exact absurd h (by decide))
theorem leafOk_mk (k : Int) (f t : Str) (lo hi : Int) (ps : List Query) : leafOk (.mk k f t lo hi ps) = (if k = 1 then decide (f = []) && decide (t = []) && (decide (lo = 0) && decide (hi = 0))
  else if k = 2 then (decide (f = []) || nameOk f) && wordsOk t 1 1 && decide (stem t ≠ []) && (decide (lo = 0) && decide (hi = 0))
  else if k = 3 then (decide (f = []) || nameOk f) && wordsOk t 2 4 && (decide (lo = 0) && decide (hi = 0))
  else if k = 4 then (decide (f = []) || nameOk f) && isWord t && decide (t.length ≤ 12) && decide (foldS t = t) && (decide (lo = 0) && decide (hi = 0))
  else if k = 5 then nameOk f && decide (t = []) && inB lo (-999999999) 999999999 && inB hi (-999999999) 999999999
  else if k = 6 then nameOk f && nameOk t && (decide (lo = 0) && decide (hi = 0))
  else false) := rfl
theorem nodeOk_mk (k : Int) (f t : Str) (lo hi : Int) (ps : List Query) (hp : ps ≠ []) : nodeOk (.mk k f t lo hi ps) = ((((decide (k = 7) || decide (k = 8)) && inB ps.length 2 4) || (decide (k = 9) && decide (ps.length = 1))) && decide (f = []) && decide (t = []) && decide (lo = 0) && decide (hi = 0)) := by
  rw [nodeOk, if_neg (show ¬ (Query.mk k f t lo hi ps).parts = [] from hp)]; rfl
theorem put_cases {d : Nat} {q : Query} (h : okQ (d + 1) q = true) :
    q = .mk 1 [] [] 0 0 [] ∨ (∃ f t, q = .mk 2 f t 0 0 [] ∧ FN f ∧ isWord t = true) ∨ (∃ f t, q = .mk 3 f t 0 0 [] ∧ FN f ∧ (splitB 32 t).all isWord = true) ∨ (∃ f t, q = .mk 4 f t 0 0 [] ∧ FN f ∧ isWord t = true)
    ∨ (∃ f lo hi, q = .mk 5 f [] lo hi [] ∧ nameOk f = true ∧ (-999999999 ≤ lo ∧ lo ≤ 999999999) ∧ (-999999999 ≤ hi ∧ hi ≤ 999999999)) ∨ (∃ f t, q = .mk 6 f t 0 0 [] ∧ nameOk f = true ∧ nameOk t = true)
    ∨ (∃ p ps, q = .mk 7 [] [] 0 0 (p :: ps) ∧ ps ≠ [] ∧ ps.length ≤ 3 ∧ okQ d p = true ∧ ∀ p ∈ ps, okQ d p = true) ∨ (∃ p ps, q = .mk 8 [] [] 0 0 (p :: ps) ∧ ps ≠ [] ∧ ps.length ≤ 3 ∧ okQ d p = true ∧ ∀ p ∈ ps, okQ d p = true) ∨ (∃ p, q = .mk 9 [] [] 0 0 [p] ∧ okQ d p = true) := by
  obtain ⟨k, f, t, lo, hi, ps⟩ := q
  rw [okQ, Bool.and_eq_true] at h
  have h2 : (ps.all (okQ d)) = true := h.2
  replace h := h.1
  by_cases hp : ps = []
  · subst hp
    rw [nodeOk, if_pos (show (Query.mk k f t lo hi []).parts = [] from rfl), leafOk_mk] at h
    have one : wordsOk t 1 1 = true → isWord t = true := fun hw => by
      rw [wordsOk, Bool.and_eq_true, Bool.and_eq_true] at hw
      obtain ⟨⟨h1, h2⟩, _⟩ := hw
      have h3 : (splitB 32 t).length = 1 := by
        rw [inB, Bool.and_eq_true, decide_eq_true_eq, decide_eq_true_eq] at h2; omega
      obtain ⟨w, hw⟩ := List.length_eq_one_iff.1 h3
      have h4 := joinB_split t
      rw [hw] at h4 h1
      simp only [joinB] at h4
      subst h4
      simpa using h1
    have fn : (decide (f = []) || nameOk f) = true → FN f := fun hf => by
      rcases Bool.or_eq_true_iff.1 hf with h | h
      · exact .inl (of_decide_eq_true h)
      · exact .inr h
    by_cases k1 : k = 1
    · subst k1; left; simp at h; obtain ⟨⟨rfl, rfl⟩, rfl, rfl⟩ := h; rfl
    by_cases k2 : k = 2
    · subst k2; right; left
      simp only [show ¬ (2 : Int) = 1 by decide, if_false, if_true, Bool.and_eq_true, decide_eq_true_eq] at h
      obtain ⟨⟨⟨h1, h2⟩, _⟩, rfl, rfl⟩ := h
      exact ⟨f, t, rfl, fn h1, one h2⟩
    by_cases k3 : k = 3
    · subst k3; right; right; left
      simp only [show ¬ (3 : Int) = 1 by decide, show ¬ (3 : Int) = 2 by decide, if_false, if_true, Bool.and_eq_true, decide_eq_true_eq, wordsOk] at h
      obtain ⟨⟨h1, ⟨h2, _⟩, _⟩, rfl, rfl⟩ := h
      exact ⟨f, t, rfl, fn h1, h2⟩
    by_cases k4 : k = 4
    · subst k4; right; right; right; left
      simp only [show ¬ (4 : Int) = 1 by decide, show ¬ (4 : Int) = 2 by decide, show ¬ (4 : Int) = 3 by decide, if_false, if_true, Bool.and_eq_true, decide_eq_true_eq] at h
      obtain ⟨⟨⟨⟨h1, h2⟩, _⟩, _⟩, rfl, rfl⟩ := h
      exact ⟨f, t, rfl, fn h1, h2⟩
    by_cases k5 : k = 5
    · subst k5; right; right; right; right; left
      simp only [show ¬ (5 : Int) = 1 by decide, show ¬ (5 : Int) = 2 by decide, show ¬ (5 : Int) = 3 by decide, show ¬ (5 : Int) = 4 by decide, if_false, if_true, Bool.and_eq_true, decide_eq_true_eq, inB] at h
      obtain ⟨⟨⟨h1, rfl⟩, h2⟩, h3⟩ := h
      exact ⟨f, lo, hi, rfl, h1, h2, h3⟩
    by_cases k6 : k = 6
    · subst k6; right; right; right; right; right; left
      simp only [show ¬ (6 : Int) = 1 by decide, show ¬ (6 : Int) = 2 by decide, show ¬ (6 : Int) = 3 by decide, show ¬ (6 : Int) = 4 by decide, show ¬ (6 : Int) = 5 by decide, if_false, if_true, Bool.and_eq_true, decide_eq_true_eq] at h
      obtain ⟨⟨h1, h2⟩, rfl, rfl⟩ := h
      exact ⟨f, t, rfl, h1, h2⟩
    · simp only [k1, k2, k3, k4, k5, k6, if_false] at h; cases h
  · rw [nodeOk_mk _ _ _ _ _ _ hp] at h
    simp only [Bool.and_eq_true, Bool.or_eq_true, decide_eq_true_eq, inB] at h
    obtain ⟨⟨⟨⟨h1, rfl⟩, rfl⟩, rfl⟩, rfl⟩ := h
    rw [List.all_eq_true] at h2
    cases ps with
    | nil => exact absurd rfl hp
    | cons p ps =>
      right; right; right; right; right; right
      rcases h1 with ⟨hk, hl⟩ | ⟨rfl, hl⟩
      · have hne : ps ≠ [] := by rintro rfl; simp at hl
        have hl3 : ps.length ≤ 3 := by simp only [List.length_cons] at hl; omega
        rcases hk with rfl | rfl
        · exact .inl ⟨p, ps, rfl, hne, hl3, h2 p (by simp), fun x hx => h2 x (List.mem_cons_of_mem _ hx)⟩
        · exact .inr (.inl ⟨p, ps, rfl, hne, hl3, h2 p (by simp), fun x hx => h2 x (List.mem_cons_of_mem _ hx)⟩)
      · have : ps = [] := by simpa using hl
        subst this
        exact .inr (.inr ⟨p, rfl, h2 p (by simp)⟩)
def Dl (r : Str) : Prop := ∀ b, r.head? = some b → b = 32 ∨ b = 41
theorem dl_sp (r : Str) : Dl (32 :: r) := fun b h => by simp at h; exact .inl h.symm
theorem dl_cl (r : Str) : Dl (41 :: r) := fun b h => by simp at h; exact .inr h.symm
theorem tail_dl {sg : Str} (hs : sg = [32] ∨ sg = [32, 124, 32]) (l : List Query) (r : Str) : Dl (tailT sg l ++ 41 :: r) := by
  cases l with
  | nil => exact dl_cl r
  | cons p l => rcases hs with rfl | rfl <;> (rw [tailT, List.flatMap_cons]; exact dl_sp _)
def hdF (f : Str) : Str := if f = [] then [] else f ++ [58]
theorem put1 : putQ (.mk 1 [] [] 0 0 []) = [42] := rfl
theorem put2 (f t : Str) : putQ (.mk 2 f t 0 0 []) = hdF f ++ t := by simp [putQ, putN, hdF]
theorem put3 (f t : Str) : putQ (.mk 3 f t 0 0 []) = hdF f ++ 34 :: (t ++ [34]) := by simp [putQ, putN, hdF]
theorem put4 (f t : Str) : putQ (.mk 4 f t 0 0 []) = hdF f ++ (t ++ [42]) := by simp [putQ, putN, hdF]
theorem put5 (f : Str) (lo hi : Int) (h : f ≠ []) : putQ (.mk 5 f [] lo hi []) = 64 :: (f ++ 58 :: (Lib.itoa lo ++ 46 :: 46 :: Lib.itoa hi)) := by simp [putQ, putN, h]
theorem put6 (f t : Str) (h : f ≠ []) : putQ (.mk 6 f t 0 0 []) = 64 :: (f ++ 58 :: 123 :: (t ++ [125])) := by simp [putQ, putN, h]
theorem put7 (p : Query) (ps : List Query) : putQ (.mk 7 [] [] 0 0 (p :: ps)) = 40 :: (putQ p ++ (tailT [32] ps ++ [41])) := by
  rw [putQ_eq]
  show putN 7 [] [] 0 0 ((p :: ps).map putQ) = _
  simp only [putN, join_tail]
  simp
theorem put8 (p : Query) (ps : List Query) : putQ (.mk 8 [] [] 0 0 (p :: ps)) = 40 :: (putQ p ++ (tailT [32, 124, 32] ps ++ [41])) := by
  rw [putQ_eq]
  show putN 8 [] [] 0 0 ((p :: ps).map putQ) = _
  simp only [putN, join_tail]
  simp
theorem put9 (p : Query) : putQ (.mk 9 [] [] 0 0 [p]) = 45 :: putQ p := by simp [putQ, putN, putL]
theorem put_head {d : Nat} {q : Query} (h : okQ d q = true) : ∃ b l, putQ q = b :: l ∧ b ≠ 32 ∧ b ≠ 124 ∧ b ≠ 41 := by
  cases d with
  | zero => cases h
  | succ d =>
    have hw : ∀ {t : Str}, t ≠ [] → t.all wordB = true → ∀ r, ∃ b l, t ++ r = b :: l ∧ b ≠ 32 ∧ b ≠ 124 ∧ b ≠ 41 := fun {t} h0 ht r => by
      cases t with
      | nil => exact absurd rfl h0
      | cons b l =>
        rw [List.all_cons, Bool.and_eq_true] at ht
        obtain ⟨n1, _, _, n2, _, _, _, _, _, _, n3, _⟩ := wordB_no ht.1
        exact ⟨b, l ++ r, rfl, n1, n3, n2⟩
    have hf : ∀ {f : Str}, FN f → ∀ (t : Str), (∃ b l, t = b :: l ∧ b ≠ 32 ∧ b ≠ 124 ∧ b ≠ 41) → ∃ b l, hdF f ++ t = b :: l ∧ b ≠ 32 ∧ b ≠ 124 ∧ b ≠ 41 := fun {f} hf t ht => by
      by_cases h0 : f = []
      · rw [hdF, if_pos h0, List.nil_append]; exact ht
      · rw [hdF, if_neg h0, List.append_assoc]
        exact hw h0 (name_word (hf.resolve_left h0)).1 _
    have wd : ∀ {t : Str}, isWord t = true → t ≠ [] ∧ t.all wordB = true := fun {t} h => by
      simp only [isWord, Bool.and_eq_true, bne_iff_ne, ne_eq] at h; exact ⟨h.2, h.1⟩
    rcases put_cases h with rfl | ⟨f, t, rfl, h1, h2⟩ | ⟨f, t, rfl, h1, h2⟩ | ⟨f, t, rfl, h1, h2⟩ | ⟨f, lo, hi, rfl, h1, h2, h3⟩ | ⟨f, t, rfl, h1, h2⟩ | ⟨p, ps, rfl, h1, h2, h3, h4⟩ | ⟨p, ps, rfl, h1, h2, h3, h4⟩ | ⟨p, rfl, h1⟩
    · exact ⟨42, [], put1, by decide, by decide, by decide⟩
    · rw [put2]
      exact hf h1 t (by have := hw (wd h2).1 (wd h2).2 []; rwa [List.append_nil] at this)
    · rw [put3]
      exact hf h1 _ ⟨34, _, rfl, by decide, by decide, by decide⟩
    · rw [put4]
      exact hf h1 (t ++ [42]) (hw (wd h2).1 (wd h2).2 _)
    · rw [put5 _ _ _ (name_word h1).2.1]
      exact ⟨64, _, rfl, by decide, by decide, by decide⟩
    · rw [put6 _ _ (name_word h1).2.1]
      exact ⟨64, _, rfl, by decide, by decide, by decide⟩
    · rw [put7]
      exact ⟨40, _, rfl, by decide, by decide, by decide⟩
    · rw [put8]
      exact ⟨40, _, rfl, by decide, by decide, by decide⟩
    · rw [put9]
      exact ⟨45, _, rfl, by decide, by decide, by decide⟩
theorem begM_cons (b : UInt8) (t : Str) : begM [b] t = decide (t.head? = some b) := by
  cases t with
  | nil => simp [begM]
  | cons c t =>
    rw [Bool.eq_iff_iff]
    simp [begM]
theorem begM_app (p r : Str) : begM p (p ++ r) = true := by simp [begM]
theorem wd {t : Str} (h : isWord t = true) : t ≠ [] ∧ t.all wordB = true := by
  simp only [isWord, Bool.and_eq_true, bne_iff_ne, ne_eq] at h; exact ⟨h.2, h.1⟩
theorem tailT_cons (sg : Str) (x : Query) (l : List Query) : tailT sg (x :: l) = sg ++ (putQ x ++ tailT sg l) := by rw [tailT, List.flatMap_cons, tailT, List.append_assoc]
def MH (d : Nat) (s : Str) (a : Nat) (K : Int) (sg : Str) (p : Query) (ps : List Query) (r : Str) : Prop :=
  ((K = 7 ∧ sg = [32]) ∨ (K = 8 ∧ sg = [32, 124, 32])) ∧ ps ≠ [] ∧ ps.length ≤ 3 ∧ okQ d p = true ∧ (∀ x ∈ ps, okQ d x = true) ∧ s.drop (a + 1) = putQ p ++ (tailT sg ps ++ 41 :: r) ∧ Dl r
def MInv (B d : Nat) (s : Str) (a : Nat) (K : Int) (sg : Str) (acc : List Query) (b : Nat) : Prop :=
  a + 1 ≤ b ∧ b ≤ s.length ∧ acc.length ≤ B ∧ 1 ≤ acc.length ∧ (∀ x ∈ acc, x.Sm) ∧
  ∀ K' sg' p ps r, MH d s a K' sg' p ps r → K = K' ∧ sg = sg' ∧ ∃ n, acc.length = n + 1 ∧ n ≤ ps.length ∧ acc = p :: ps.take n ∧ s.drop b = tailT sg' (ps.drop n) ++ 41 :: r
theorem many_sign {d : Nat} {s : Str} {a : Nat} {K : Int} {sg : Str} {p : Query} {ps : List Query} {r : Str} (h : MH d s a K sg p ps r) : begM [32, 124, 32] (tailT sg ps ++ 41 :: r) = decide (sg = [32, 124, 32]) := by
  obtain ⟨h1, h2, _, _, h5, _, _⟩ := h
  cases ps with
  | nil => exact absurd rfl h2
  | cons x l =>
    rw [tailT_cons]
    rcases h1 with ⟨_, rfl⟩ | ⟨_, rfl⟩
    · obtain ⟨b, m, hm, _, hb, _⟩ := put_head (h5 x (by simp))
      rw [hm]
      have : begM [32, 124, 32] ([32] ++ (b :: m ++ tailT [32] l) ++ 41 :: r) = false := by
        rw [begM, Bool.and_eq_false_iff]
        right
        simp [hb]
      rw [this]; decide
    · rw [List.append_assoc, begM_app]; decide
theorem MInv.first {B d : Nat} {s : Str} {a : Nat} {q : Query} {b : Nat} (h1 : a + 1 ≤ b) (h2 : b ≤ s.length) (hB : 1 ≤ B) (hq : q.Sm) (hrt : ∀ q0 r, okQ d q0 = true → s.drop (a + 1) = putQ q0 ++ r → Dl r → q = q0 ∧ b = a + 1 + (putQ q0).length) :
    MInv B d s a (if begM [32, 124, 32] (s.drop b) = true then 8 else 7) (if begM [32, 124, 32] (s.drop b) = true then [32, 124, 32] else [32]) [q] b := by
  refine ⟨h1, h2, hB, Nat.le_refl _, by simpa using hq, fun K sg p ps r hM => ?_⟩
  have hsg := many_sign hM
  obtain ⟨m1, m2, m3, m4, m5, m6, m7⟩ := hM
  have htd : Dl (tailT sg ps ++ 41 :: r) := tail_dl (by rcases m1 with ⟨_, h⟩ | ⟨_, h⟩; exact .inl h; exact .inr h) ps r
  obtain ⟨rfl, hb⟩ := hrt p _ m4 m6 htd
  have hd : s.drop b = tailT sg ps ++ 41 :: r := by rw [hb, ← List.drop_drop, m6, List.drop_left]
  rw [hd, hsg]
  rcases m1 with ⟨rfl, rfl⟩ | ⟨rfl, rfl⟩
  · exact ⟨by decide, by decide, 0, rfl, Nat.zero_le _, by simp, by simp⟩
  · exact ⟨by decide, by decide, 0, rfl, Nat.zero_le _, by simp, by simp⟩
theorem MInv.step {B d : Nat} {s : Str} {a : Nat} {K : Int} {sg : Str} {acc : List Query} {b : Nat} (h : MInv B d s a K sg acc b) (hb : begM sg (s.drop b) = true) {q : Query} {c : Nat} (hq : q.Sm) (h1 : b + sg.length ≤ c) (h2 : c ≤ s.length) (hl : acc.length + 1 ≤ B)
    (hrt : ∀ q0 r, okQ d q0 = true → s.drop (b + sg.length) = putQ q0 ++ r → Dl r → q = q0 ∧ c = b + sg.length + (putQ q0).length) : MInv B d s a K sg (acc ++ [q]) c := by
  obtain ⟨i1, i2, i3, i4, i5, i6⟩ := h
  refine ⟨by omega, h2, by simpa using hl, by simp, fun x hx => ?_, fun K' sg' p ps r hM => ?_⟩
  · rcases List.mem_append.1 hx with hx | hx
    · exact i5 x hx
    · simp at hx; subst hx; exact hq
  · obtain ⟨rfl, rfl, n, n1, n2, n3, n4⟩ := i6 K' sg' p ps r hM
    obtain ⟨m1, m2, m3, m4, m5, m6, m7⟩ := hM
    refine ⟨rfl, rfl, n + 1, by simp [n1], ?_⟩
    cases hd : ps.drop n with
    | nil =>
      exfalso
      rw [n4, hd] at hb
      rcases m1 with ⟨_, rfl⟩ | ⟨_, rfl⟩
      · rw [show tailT [32] [] ++ 41 :: r = 41 :: r from rfl, begM_cons] at hb; simp at hb
      · rw [show tailT [32, 124, 32] [] ++ 41 :: r = 41 :: r from rfl] at hb
        simp [begM] at hb
    | cons x l =>
      have hx : ps[n]? = some x := by
        have := congrArg (fun y => y[0]?) hd
        simpa using this
      have hnl : n < ps.length := by
        rcases Nat.lt_or_ge n ps.length with h | h
        · exact h
        · rw [List.getElem?_eq_none h] at hx; cases hx
      have hl2 : ps.drop (n + 1) = l := by rw [← List.drop_drop, hd]; rfl
      rw [hd, tailT_cons, List.append_assoc, List.append_assoc] at n4
      have hdc : s.drop (b + sg.length) = putQ x ++ (tailT sg l ++ 41 :: r) := by rw [← List.drop_drop, n4, List.drop_left]
      obtain ⟨rfl, hc⟩ := hrt x _ (m5 x (List.mem_of_getElem? hx)) hdc (tail_dl (by rcases m1 with ⟨_, h⟩ | ⟨_, h⟩; exact .inl h; exact .inr h) l r)
      refine ⟨hnl, ?_, ?_⟩
      · rw [n3, List.take_add_one, hx]; simp
      · rw [hl2, hc, ← List.drop_drop, hdc, List.drop_left]
end Go.Proofs.YtmanllfmgghadaaDoor.PVE
