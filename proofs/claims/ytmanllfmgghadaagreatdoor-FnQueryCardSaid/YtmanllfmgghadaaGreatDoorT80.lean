/- The text of a question, and reading it back: plain laws. -/
import Derived.Test.YtmanllfmgghadaaGreatDoorT19
import Derived.Lib.ItoaLen
set_option linter.unusedVariables false
set_option linter.unusedSimpArgs false
set_option maxRecDepth 100000
namespace Go.Proofs.YtmanllfmgghadaaGreatDoor.PVE
open PV Query
def putN (k : Int) (f t : Str) (lo hi : Int) (ps : List Str) : Str :=
  let h := if f = [] then [] else f ++ [58]
  if k = 1 then [42] else if k = 2 then h ++ t else if k = 3 then h ++ 34 :: (t ++ [34]) else if k = 4 then h ++ (t ++ [42])
  else if k = 5 then 64 :: (h ++ (Lib.itoa lo ++ 46 :: 46 :: Lib.itoa hi)) else if k = 6 then 64 :: (h ++ 123 :: (t ++ [125]))
  else if k = 7 then 40 :: (Lib.join ps [32] ++ [41]) else if k = 8 then 40 :: (Lib.join ps [32, 124, 32] ++ [41]) else 45 :: ps.headD []
mutual
def putQ : Query → Str | .mk k f t lo hi p => putN k f t lo hi (putL p)
def putL : List Query → List Str
  | [] => []
  | q :: l => putQ q :: putL l
end
theorem putL_map : ∀ l : List Query, putL l = l.map putQ
  | [] => rfl
  | q :: l => by rw [putL, putL_map l, List.map_cons]
theorem putQ_eq : ∀ q : Query, putQ q = putN q.kind q.field q.text q.low q.high (q.parts.map putQ)
  | .mk k f t lo hi p => by rw [putQ, putL_map]; rfl
theorem join_len (sep : Str) : ∀ (l : List Str) (m : Nat), (∀ s ∈ l, s.length ≤ m) → (Lib.join l sep).length ≤ l.length * (m + sep.length)
  | [], m, _ => by simp [Lib.join]
  | [x], m, h => by simp [Lib.join]; have := h x (by simp); omega
  | x :: y :: l, m, h => by
    have ih := join_len sep (y :: l) m fun s hs => h s (List.mem_cons_of_mem _ hs)
    have hx := h x (by simp)
    have e : Lib.join (x :: y :: l) sep = x ++ (sep ++ Lib.join (y :: l) sep) := by simp [Lib.join]
    rw [e, List.length_append, List.length_append, List.length_cons, Nat.add_mul, Nat.one_mul]
    omega
theorem join_snoc (sep : Str) : ∀ (l : List Str) (w : Str), Lib.join (l ++ [w]) sep = Lib.join l sep ++ ((if l = [] then [] else sep) ++ w)
  | [], w => by simp [Lib.join]
  | [x], w => by simp [Lib.join]
  | x :: y :: l, w => by
    have ih := join_snoc sep (y :: l) w
    have e : ∀ z l, Lib.join (x :: z :: l) sep = x ++ (sep ++ Lib.join (z :: l) sep) := fun z l => by simp [Lib.join]
    rw [if_neg (by simp)] at ih
    rw [List.cons_append, List.cons_append, e, e, ← List.cons_append, ih, if_neg (by simp)]
    simp
def tailT (sg : Str) (l : List Query) : Str := l.flatMap fun p => sg ++ putQ p
theorem join_tail (sg : Str) : ∀ (p : Query) (l : List Query), Lib.join ((p :: l).map putQ) sg = putQ p ++ tailT sg l
  | p, [] => by simp [Lib.join, tailT]
  | p, y :: l => by
    have ih := join_tail sg y l
    have e : ∀ x z l, Lib.join (x :: z :: l) sg = x ++ (sg ++ Lib.join (z :: l) sg) := fun x z l => by simp [Lib.join]
    rw [List.map_cons, List.map_cons, e, ← List.map_cons, ih, tailT, tailT, List.flatMap_cons, List.append_assoc]
def FN (f : Str) : Prop := f = [] ∨ nameOk f = true
theorem nameL_word : ∀ (s : Str) (i : Nat), nameL i s = true → s.all wordB = true
  | [], _, _ => rfl
  | b :: l, i, h => by
    rw [nameL, Bool.and_eq_true] at h
    rw [List.all_cons, nameL_word l _ h.2, Bool.and_true, wordB, wordI]
    have := h.1
    cases h1 : inB b.toNat 97 122 with
    | true => simp
    | false => rw [h1, Bool.false_or, Bool.and_eq_true] at this; simp [this.2]
theorem name_word {s : Str} (h : nameOk s = true) : s.all wordB = true ∧ s ≠ [] ∧ s.length ≤ 8 := by
  rw [nameOk, Bool.and_eq_true] at h
  refine ⟨nameL_word s 0 h.1, ?_, ?_⟩
  · rintro rfl; exact absurd h.2 (by decide)
  · have := h.2; rw [inB, Bool.and_eq_true, decide_eq_true_eq, decide_eq_true_eq] at this; omega
theorem digB_word {b : UInt8} (h : digB b = true) : wordB b = true := by
  rw [digB, Bool.and_eq_true, decide_eq_true_eq, decide_eq_true_eq] at h
  have : inB b.toNat 48 57 = true := by rw [inB, Bool.and_eq_true, decide_eq_true_eq, decide_eq_true_eq]; omega
  rw [wordB, wordI, this]; simp
theorem dec_word (u : Nat) : (Lib.decDigits u).all wordB = true := by
  rw [List.all_eq_true]
  intro b hb
  exact digB_word ((List.all_eq_true.1 (decD_all u).1) b hb)
theorem wordB_no {b : UInt8} (h : wordB b = true) : b ≠ 32 ∧ b ≠ 34 ∧ b ≠ 40 ∧ b ≠ 41 ∧ b ≠ 42 ∧ b ≠ 45 ∧ b ≠ 46 ∧ b ≠ 58 ∧ b ≠ 64 ∧ b ≠ 123 ∧ b ≠ 124 ∧ b ≠ 125 := by
  refine ⟨?_, ?_, ?_, ?_, ?_, ?_, ?_, ?_, ?_, ?_, ?_, ?_⟩ <;> (rintro rfl; exact absurd h (by decide))
theorem leafOk_mk (k : Int) (f t : Str) (lo hi : Int) (ps : List Query) : leafOk (.mk k f t lo hi ps) = (if k = 1 then decide (f = []) && decide (t = []) && (decide (lo = 0) && decide (hi = 0))
  else if k = 2 then (decide (f = []) || nameOk f) && wordsOk t 1 1 && decide (stem t ≠ []) && (decide (lo = 0) && decide (hi = 0))
  else if k = 3 then (decide (f = []) || nameOk f) && wordsOk t 2 4 && (decide (lo = 0) && decide (hi = 0))
  else if k = 4 then (decide (f = []) || nameOk f) && isWord t && decide (t.length ≤ 12) && decide (foldS t = t) && (decide (lo = 0) && decide (hi = 0))
  else if k = 5 then nameOk f && decide (t = []) && inB lo (-999999999) 999999999 && inB hi (-999999999) 999999999
  else if k = 6 then nameOk f && nameOk t && (decide (lo = 0) && decide (hi = 0))
  else false) := rfl
theorem nodeOk_mk (k : Int) (f t : Str) (lo hi : Int) (ps : List Query) (hp : ps ≠ []) : nodeOk (.mk k f t lo hi ps) = ((((decide (k = 7) || decide (k = 8)) && inB ps.length 2 4) || (decide (k = 9) && decide (ps.length = 1))) && decide (f = []) && decide (t = []) && decide (lo = 0) && decide (hi = 0)) := by
  rw [nodeOk, if_neg (show ¬ (Query.mk k f t lo hi ps).parts = [] from hp)]; rfl
theorem put_cases {d : Nat} {q : Query} (h : okQ (d + 1) q = true) :
    q = .mk 1 [] [] 0 0 [] ∨ (∃ f t, q = .mk 2 f t 0 0 [] ∧ FN f ∧ isWord t = true) ∨ (∃ f t, q = .mk 3 f t 0 0 [] ∧ FN f ∧ (splitB 32 t).all isWord = true) ∨ (∃ f t, q = .mk 4 f t 0 0 [] ∧ FN f ∧ isWord t = true)
    ∨ (∃ f lo hi, q = .mk 5 f [] lo hi [] ∧ nameOk f = true ∧ (-999999999 ≤ lo ∧ lo ≤ 999999999) ∧ (-999999999 ≤ hi ∧ hi ≤ 999999999)) ∨ (∃ f t, q = .mk 6 f t 0 0 [] ∧ nameOk f = true ∧ nameOk t = true)
    ∨ (∃ p ps, q = .mk 7 [] [] 0 0 (p :: ps) ∧ ps ≠ [] ∧ ps.length ≤ 3 ∧ okQ d p = true ∧ ∀ p ∈ ps, okQ d p = true) ∨ (∃ p ps, q = .mk 8 [] [] 0 0 (p :: ps) ∧ ps ≠ [] ∧ ps.length ≤ 3 ∧ okQ d p = true ∧ ∀ p ∈ ps, okQ d p = true) ∨ (∃ p, q = .mk 9 [] [] 0 0 [p] ∧ okQ d p = true) := by
  obtain ⟨k, f, t, lo, hi, ps⟩ := q
  rw [okQ, Bool.and_eq_true] at h
  have h2 : (ps.all (okQ d)) = true := h.2
  replace h := h.1
  by_cases hp : ps = []
  · subst hp
    rw [nodeOk, if_pos (show (Query.mk k f t lo hi []).parts = [] from rfl), leafOk_mk] at h
    have one : wordsOk t 1 1 = true → isWord t = true := fun hw => by
      rw [wordsOk, Bool.and_eq_true, Bool.and_eq_true] at hw
      obtain ⟨⟨h1, h2⟩, _⟩ := hw
      have h3 : (splitB 32 t).length = 1 := by
        rw [inB, Bool.and_eq_true, decide_eq_true_eq, decide_eq_true_eq] at h2; omega
      obtain ⟨w, hw⟩ := List.length_eq_one_iff.1 h3
      have h4 := joinB_split t
      rw [hw] at h4 h1
      simp only [joinB] at h4
      subst h4
      simpa using h1
    have fn : (decide (f = []) || nameOk f) = true → FN f := fun hf => by
      rcases Bool.or_eq_true_iff.1 hf with h | h
      · exact .inl (of_decide_eq_true h)
      · exact .inr h
    by_cases k1 : k = 1
    · subst k1; left; simp at h; obtain ⟨⟨rfl, rfl⟩, rfl, rfl⟩ := h; rfl
    by_cases k2 : k = 2
    · subst k2; right; left
      simp only [show ¬ (2 : Int) = 1 by decide, if_false, if_true, Bool.and_eq_true, decide_eq_true_eq] at h
      obtain ⟨⟨⟨h1, h2⟩, _⟩, rfl, rfl⟩ := h
      exact ⟨f, t, rfl, fn h1, one h2⟩
    by_cases k3 : k = 3
    · subst k3; right; right; left
      simp only [show ¬ (3 : Int) = 1 by decide, show ¬ (3 : Int) = 2 by decide, if_false, if_true, Bool.and_eq_true, decide_eq_true_eq, wordsOk] at h
      obtain ⟨⟨h1, ⟨h2, _⟩, _⟩, rfl, rfl⟩ := h
      exact ⟨f, t, rfl, fn h1, h2⟩
    by_cases k4 : k = 4
    · subst k4; right; right; right; left
      simp only [show ¬ (4 : Int) = 1 by decide, show ¬ (4 : Int) = 2 by decide, show ¬ (4 : Int) = 3 by decide, if_false, if_true, Bool.and_eq_true, decide_eq_true_eq] at h
      obtain ⟨⟨⟨⟨h1, h2⟩, _⟩, _⟩, rfl, rfl⟩ := h
      exact ⟨f, t, rfl, fn h1, h2⟩
    by_cases k5 : k = 5
    · subst k5; right; right; right; right; left
      simp only [show ¬ (5 : Int) = 1 by decide, show ¬ (5 : Int) = 2 by decide, show ¬ (5 : Int) = 3 by decide, show ¬ (5 : Int) = 4 by decide, if_false, if_true, Bool.and_eq_true, decide_eq_true_eq, inB] at h
      obtain ⟨⟨⟨h1, rfl⟩, h2⟩, h3⟩ := h
      exact ⟨f, lo, hi, rfl, h1, h2, h3⟩
    by_cases k6 : k = 6
    · subst k6; right; right; right; right; right; left
      simp only [show ¬ (6 : Int) = 1 by decide, show ¬ (6 : Int) = 2 by decide, show ¬ (6 : Int) = 3 by decide, show ¬ (6 : Int) = 4 by decide, show ¬ (6 : Int) = 5 by decide, if_false, if_true, Bool.and_eq_true, decide_eq_true_eq] at h
      obtain ⟨⟨h1, h2⟩, rfl, rfl⟩ := h
      exact ⟨f, t, rfl, h1, h2⟩
    · simp only [k1, k2, k3, k4, k5, k6, if_false] at h; cases h
  · rw [nodeOk_mk _ _ _ _ _ _ hp] at h
    simp only [Bool.and_eq_true, Bool.or_eq_true, decide_eq_true_eq, inB] at h
    obtain ⟨⟨⟨⟨h1, rfl⟩, rfl⟩, rfl⟩, rfl⟩ := h
    rw [List.all_eq_true] at h2
    cases ps with
    | nil => exact absurd rfl hp
    | cons p ps =>
      right; right; right; right; right; right
      rcases h1 with ⟨hk, hl⟩ | ⟨rfl, hl⟩
      · have hne : ps ≠ [] := by rintro rfl; simp at hl
        have hl3 : ps.length ≤ 3 := by simp only [List.length_cons] at hl; omega
        rcases hk with rfl | rfl
        · exact .inl ⟨p, ps, rfl, hne, hl3, h2 p (by simp), fun x hx => h2 x (List.mem_cons_of_mem _ hx)⟩
        · exact .inr (.inl ⟨p, ps, rfl, hne, hl3, h2 p (by simp), fun x hx => h2 x (List.mem_cons_of_mem _ hx)⟩)
      · have : ps = [] := by simpa using hl
        subst this
        exact .inr (.inr ⟨p, rfl, h2 p (by simp)⟩)
def Dl (r : Str) : Prop := ∀ b, r.head? = some b → b = 32 ∨ b = 41
theorem dl_nil : Dl [] := fun b h => by simp at h
theorem dl_sp (r : Str) : Dl (32 :: r) := fun b h => by simp at h; exact .inl h.symm
theorem dl_cl (r : Str) : Dl (41 :: r) := fun b h => by simp at h; exact .inr h.symm
theorem dl_no {r : Str} (h : Dl r) : ∀ b, r.head? = some b → wordB b = false := fun b hb => by
  rcases h b hb with rfl | rfl <;> decide
theorem tail_dl {sg : Str} (hs : sg = [32] ∨ sg = [32, 124, 32]) (l : List Query) (r : Str) : Dl (tailT sg l ++ 41 :: r) := by
  cases l with
  | nil => exact dl_cl r
  | cons p l => rcases hs with rfl | rfl <;> (rw [tailT, List.flatMap_cons]; exact dl_sp _)
def hdF (f : Str) : Str := if f = [] then [] else f ++ [58]
theorem put1 : putQ (.mk 1 [] [] 0 0 []) = [42] := rfl
theorem put2 (f t : Str) : putQ (.mk 2 f t 0 0 []) = hdF f ++ t := by simp [putQ, putN, hdF]
theorem put3 (f t : Str) : putQ (.mk 3 f t 0 0 []) = hdF f ++ 34 :: (t ++ [34]) := by simp [putQ, putN, hdF]
theorem put4 (f t : Str) : putQ (.mk 4 f t 0 0 []) = hdF f ++ (t ++ [42]) := by simp [putQ, putN, hdF]
theorem put5 (f : Str) (lo hi : Int) (h : f ≠ []) : putQ (.mk 5 f [] lo hi []) = 64 :: (f ++ 58 :: (Lib.itoa lo ++ 46 :: 46 :: Lib.itoa hi)) := by simp [putQ, putN, h]
theorem put6 (f t : Str) (h : f ≠ []) : putQ (.mk 6 f t 0 0 []) = 64 :: (f ++ 58 :: 123 :: (t ++ [125])) := by simp [putQ, putN, h]
theorem put7 (p : Query) (ps : List Query) : putQ (.mk 7 [] [] 0 0 (p :: ps)) = 40 :: (putQ p ++ (tailT [32] ps ++ [41])) := by
  rw [putQ_eq]
  show putN 7 [] [] 0 0 ((p :: ps).map putQ) = _
  simp only [putN, join_tail]
  simp
theorem put8 (p : Query) (ps : List Query) : putQ (.mk 8 [] [] 0 0 (p :: ps)) = 40 :: (putQ p ++ (tailT [32, 124, 32] ps ++ [41])) := by
  rw [putQ_eq]
  show putN 8 [] [] 0 0 ((p :: ps).map putQ) = _
  simp only [putN, join_tail]
  simp
theorem put9 (p : Query) : putQ (.mk 9 [] [] 0 0 [p]) = 45 :: putQ p := by simp [putQ, putN, putL]
theorem put_head {d : Nat} {q : Query} (h : okQ d q = true) : ∃ b l, putQ q = b :: l ∧ b ≠ 32 ∧ b ≠ 124 ∧ b ≠ 41 := by
  cases d with
  | zero => cases h
  | succ d =>
    have hw : ∀ {t : Str}, t ≠ [] → t.all wordB = true → ∀ r, ∃ b l, t ++ r = b :: l ∧ b ≠ 32 ∧ b ≠ 124 ∧ b ≠ 41 := fun {t} h0 ht r => by
      cases t with
      | nil => exact absurd rfl h0
      | cons b l =>
        rw [List.all_cons, Bool.and_eq_true] at ht
        obtain ⟨n1, _, _, n2, _, _, _, _, _, _, n3, _⟩ := wordB_no ht.1
        exact ⟨b, l ++ r, rfl, n1, n3, n2⟩
    have hf : ∀ {f : Str}, FN f → ∀ (t : Str), (∃ b l, t = b :: l ∧ b ≠ 32 ∧ b ≠ 124 ∧ b ≠ 41) → ∃ b l, hdF f ++ t = b :: l ∧ b ≠ 32 ∧ b ≠ 124 ∧ b ≠ 41 := fun {f} hf t ht => by
      by_cases h0 : f = []
      · rw [hdF, if_pos h0, List.nil_append]; exact ht
      · rw [hdF, if_neg h0, List.append_assoc]
        exact hw h0 (name_word (hf.resolve_left h0)).1 _
    have wd : ∀ {t : Str}, isWord t = true → t ≠ [] ∧ t.all wordB = true := fun {t} h => by
      simp only [isWord, Bool.and_eq_true, bne_iff_ne, ne_eq] at h; exact ⟨h.2, h.1⟩
    rcases put_cases h with rfl | ⟨f, t, rfl, h1, h2⟩ | ⟨f, t, rfl, h1, h2⟩ | ⟨f, t, rfl, h1, h2⟩ | ⟨f, lo, hi, rfl, h1, h2, h3⟩ | ⟨f, t, rfl, h1, h2⟩ | ⟨p, ps, rfl, h1, h2, h3, h4⟩ | ⟨p, ps, rfl, h1, h2, h3, h4⟩ | ⟨p, rfl, h1⟩
    · exact ⟨42, [], put1, by decide, by decide, by decide⟩
    · rw [put2]
      exact hf h1 t (by have := hw (wd h2).1 (wd h2).2 []; rwa [List.append_nil] at this)
    · rw [put3]
      exact hf h1 _ ⟨34, _, rfl, by decide, by decide, by decide⟩
    · rw [put4]
      exact hf h1 (t ++ [42]) (hw (wd h2).1 (wd h2).2 _)
    · rw [put5 _ _ _ (name_word h1).2.1]
      exact ⟨64, _, rfl, by decide, by decide, by decide⟩
    · rw [put6 _ _ (name_word h1).2.1]
      exact ⟨64, _, rfl, by decide, by decide, by decide⟩
    · rw [put7]
      exact ⟨40, _, rfl, by decide, by decide, by decide⟩
    · rw [put8]
      exact ⟨40, _, rfl, by decide, by decide, by decide⟩
    · rw [put9]
      exact ⟨45, _, rfl, by decide, by decide, by decide⟩
theorem begM_cons (b : UInt8) (t : Str) : begM [b] t = decide (t.head? = some b) := by
  cases t with
  | nil => simp [begM]
  | cons c t =>
    rw [Bool.eq_iff_iff]
    simp [begM]
theorem begM_app (p r : Str) : begM p (p ++ r) = true := by simp [begM]
theorem begM_of {p t : Str} (h : begM p t = true) : t = p ++ t.drop p.length := by
  rw [begM, Bool.and_eq_true, decide_eq_true_eq, decide_eq_true_eq] at h
  conv => lhs; rw [← List.take_append_drop p.length t, h.2]
theorem begM_len {p t : Str} (h : begM p t = true) : p.length ≤ t.length := by
  rw [begM, Bool.and_eq_true, decide_eq_true_eq] at h
  exact h.1
theorem index_at {c : UInt8} : ∀ {w : Str} (r : Str), c ∉ w → Lib.indexByte (w ++ c :: r) c = w.length
  | [], r, _ => by simp [Lib.indexByte]
  | b :: w, r, h => by
    have hb : (b == c) = false := by
      have : b ≠ c := by rintro rfl; exact h (by simp)
      simpa using this
    have ih := index_at (w := w) r fun hm => h (List.mem_cons_of_mem _ hm)
    have hne : ¬ (((w.length : Nat) : Int) == -1) = true := by simp
    rw [List.cons_append]
    simp [Lib.indexByte, hb, ih, hne]
theorem words_no {c : UInt8} {t : Str} (h : t.all wordB = true) (hc : wordB c = false) : c ∉ t := fun hm => by
  have := List.all_eq_true.1 h c hm
  rw [hc] at this; cases this
theorem phrase_key : ∀ l : List Str, l.all isWord = true → (34 : UInt8) ∉ joinB l
  | [], _ => by simp [joinB]
  | [w], h => by
    simp only [List.all_cons, List.all_nil, Bool.and_true, isWord, Bool.and_eq_true] at h
    exact words_no h.1 (by decide)
  | w :: v :: l, h => by
    rw [List.all_cons, Bool.and_eq_true] at h
    have ih := phrase_key (v :: l) h.2
    have hw := words_no (c := 34) (by have := h.1; simp only [isWord, Bool.and_eq_true] at this; exact this.1) (by decide)
    rw [joinB]
    · simp only [List.mem_append, List.mem_cons, not_or]
      exact ⟨hw, by decide, ih⟩
    · simp
theorem phrase_no {t : Str} (h : (splitB 32 t).all isWord = true) : (34 : UInt8) ∉ t := by
  have := phrase_key _ h
  rwa [joinB_split] at this
theorem wd {t : Str} (h : isWord t = true) : t ≠ [] ∧ t.all wordB = true := by
  simp only [isWord, Bool.and_eq_true, bne_iff_ne, ne_eq] at h; exact ⟨h.2, h.1⟩
theorem run_head {b : UInt8} {t : Str} (h : wordB b = false) : run (b :: t) = 0 := by rw [run, if_neg (by rw [h]; simp)]
def upC (t : Str) (c : UInt8) : Str × Nat := if c ∈ t then (t.take (Lib.indexByte t c).toNat, (Lib.indexByte t c).toNat + 1) else (t, t.length)
theorem upC_at {c : UInt8} {w : Str} (r : Str) (h : c ∉ w) : upC (w ++ c :: r) c = (w, w.length + 1) := by
  rw [upC, if_pos (by simp), index_at r h, Int.toNat_natCast, List.take_left]
theorem index_le {c : UInt8} : ∀ {t : Str}, c ∈ t → ∃ m : Nat, Lib.indexByte t c = m ∧ m < t.length
  | b :: t, h => by
    by_cases hb : b = c
    · subst hb; exact ⟨0, by simp [Lib.indexByte], by simp⟩
    · have hbc : (b == c) = false := by simpa using hb
      obtain ⟨m, h1, h2⟩ := index_le (t := t) (by rcases List.mem_cons.1 h with h | h; exact absurd h.symm hb; exact h)
      have hne : ¬ (((m : Nat) : Int) == -1) = true := by simp
      exact ⟨m + 1, by simp [Lib.indexByte, hbc, h1, hne], by simpa using h2⟩
theorem upC_le (t : Str) (c : UInt8) : (upC t c).2 ≤ t.length ∧ (upC t c).1.length ≤ t.length := by
  rw [upC]
  split
  · rename_i h
    obtain ⟨m, h1, h2⟩ := index_le h
    rw [h1, Int.toNat_natCast]
    simp only [List.length_take]
    omega
  · exact ⟨Nat.le_refl _, Nat.le_refl _⟩
def numC (t : Str) : Int × Nat :=
  let e := (if begM [45] t = true then 1 else 0) + run (t.drop (if begM [45] t = true then 1 else 0))
  ((numI (t.take e)).1, e)
theorem itoa_cases (n : Int) : (∃ u : Nat, Lib.itoa n = 45 :: Lib.decDigits u) ∨ ∃ u : Nat, Lib.itoa n = Lib.decDigits u := by
  rw [Lib.itoa]; split
  · exact .inl ⟨_, rfl⟩
  · exact .inr ⟨_, rfl⟩
theorem numC_at {n : Int} (h1 : -999999999 ≤ n) (h2 : n ≤ 999999999) {r : Str} (hr : ∀ b, r.head? = some b → wordB b = false) : numC (Lib.itoa n ++ r) = (n, (Lib.itoa n).length) := by
  have hv : (numI (Lib.itoa n)).1 = n := by rw [num_same, numS_itoa h1 h2]; rfl
  have he : (if begM [45] (Lib.itoa n ++ r) = true then 1 else 0) + run ((Lib.itoa n ++ r).drop (if begM [45] (Lib.itoa n ++ r) = true then 1 else 0)) = (Lib.itoa n).length := by
    rcases itoa_cases n with ⟨u, hu⟩ | ⟨u, hu⟩
    · rw [hu, List.cons_append]
      have : begM [45] (45 :: (Lib.decDigits u ++ r)) = true := by rw [begM_cons]; rfl
      rw [this, if_pos rfl, List.drop_succ_cons, List.drop_zero, run_word r (dec_word u) hr, List.length_cons]
      omega
    · rw [hu]
      have hb : begM [45] (Lib.decDigits u ++ r) = false := by
        have hd := dec_word u
        have hn := (decD_all u).2.1
        cases hx : Lib.decDigits u with
        | nil => exact absurd hx hn
        | cons b l =>
          rw [hx, List.all_cons, Bool.and_eq_true] at hd
          rw [begM_cons, decide_eq_false_iff_not]
          intro hc
          have : b = 45 := by simpa using hc
          exact (wordB_no hd.1).2.2.2.2.2.1 this
      rw [hb, if_neg (by simp), List.drop_zero, run_word r (dec_word u) hr]
      omega
  rw [numC, he, List.take_left, hv]
theorem numC_le (t : Str) : (numC t).2 ≤ t.length := by
  show (if begM [45] t = true then 1 else 0) + run (t.drop (if begM [45] t = true then 1 else 0)) ≤ t.length
  have := run_le (t.drop (if begM [45] t = true then 1 else 0))
  rw [List.length_drop] at this
  split
  · rename_i h
    rw [if_pos h] at this
    have := begM_len h
    simp at this
    omega
  · rename_i h
    rw [if_neg h] at this
    omega
def wordC (t : Str) : Query × Nat :=
  let qt := begM [34] t
  let n := if qt = true then 0 else run t
  let fd := !qt && begM [58] (t.drop n)
  let m := if fd = true then n + 1 else n
  let w := if qt = true then [] else if fd = true then (t.drop m).take (run (t.drop m)) else t.take n
  let e := if fd = true then m + run (t.drop m) else m
  let f := if fd = true then t.take n else []
  if w = [] ∧ begM [34] (t.drop e) = true then (.mk 3 f (upC (t.drop (e + 1)) 34).1 0 0 [], e + 1 + (upC (t.drop (e + 1)) 34).2)
  else if begM [42] (t.drop e) = true then (.mk 4 f w 0 0 [], e + 1) else (.mk 2 f w 0 0 [], e)
theorem begM_no {b : UInt8} {t : Str} (h : ∀ c, t.head? = some c → c ≠ b) : begM [b] t = false := by
  rw [begM_cons, decide_eq_false_iff_not]
  intro hc
  exact h b hc rfl
theorem begM_yes (b : UInt8) (t : Str) : begM [b] (b :: t) = true := by rw [begM_cons]; simp
theorem dl_ne {r : Str} (h : Dl r) (b : UInt8) (hb : b ≠ 32 ∧ b ≠ 41) : begM [b] r = false := begM_no fun c hc hcb => by
  subst hcb
  rcases h c hc with h | h
  · exact hb.1 h
  · exact hb.2 h
theorem word_ne {w r : Str} (hw : isWord w = true) {b : UInt8} (hb : wordB b = false) : begM [b] (w ++ r) = false := begM_no fun c hc hcb => by
  obtain ⟨h0, h1⟩ := wd hw
  cases w with
  | nil => exact h0 rfl
  | cons x w =>
    rw [List.all_cons, Bool.and_eq_true] at h1
    simp at hc
    subst hc hcb
    rw [hb] at h1
    cases h1.1
theorem fn_word {f : Str} (h : FN f) (h0 : f ≠ []) : isWord f = true := by
  obtain ⟨h1, h2, _⟩ := name_word (h.resolve_left h0)
  simp [isWord, h1, h2]
theorem wordC_2 {f w r : Str} (hf : FN f) (hw : isWord w = true) (hr : Dl r) : wordC (hdF f ++ (w ++ r)) = (.mk 2 f w 0 0 [], (hdF f ++ w).length) := by
  obtain ⟨w0, w1⟩ := wd hw
  have hrw : run (w ++ r) = w.length := run_word r w1 (dl_no hr)
  by_cases h0 : f = []
  · subst h0
    have e1 := word_ne (r := r) hw (b := 34) (by decide)
    have e2 := dl_ne hr 58 (by decide)
    have e4 := dl_ne hr 42 (by decide)
    simp [wordC, hdF, e1, hrw, e2, e4, w0]
  · have e1 := word_ne (r := 58 :: (w ++ r)) (fn_word hf h0) (b := 34) (by decide)
    have hrf : run (f ++ 58 :: (w ++ r)) = f.length := run_word _ (name_word (hf.resolve_left h0)).1 (by intro b hb; simp at hb; subst hb; decide)
    have e2 := begM_yes 58 (w ++ r)
    have e4 := dl_ne hr 42 (by decide)
    have d1 : (f ++ 58 :: (w ++ r)).drop (f.length + 1) = w ++ r := by rw [← List.drop_drop, List.drop_left]; rfl
    have d2 : (f ++ 58 :: (w ++ r)).drop (f.length + 1 + w.length) = r := by rw [← List.drop_drop, d1, List.drop_left]
    simp [wordC, hdF, h0, e1, hrf, e2, d1, hrw, d2, e4, w0]
    omega
theorem wordC_4 {f w r : Str} (hf : FN f) (hw : isWord w = true) : wordC (hdF f ++ (w ++ 42 :: r)) = (.mk 4 f w 0 0 [], (hdF f ++ (w ++ [42])).length) := by
  obtain ⟨w0, w1⟩ := wd hw
  have hrw : run (w ++ 42 :: r) = w.length := run_word _ w1 (by intro b hb; simp at hb; subst hb; decide)
  have e4 := begM_yes 42 r
  by_cases h0 : f = []
  · subst h0
    have e1 := word_ne (r := 42 :: r) hw (b := 34) (by decide)
    have e2 : begM [58] (42 :: r) = false := begM_no fun c hc => by simp at hc; subst hc; decide
    simp [wordC, hdF, e1, hrw, e2, e4, w0]
  · have e1 := word_ne (r := 58 :: (w ++ 42 :: r)) (fn_word hf h0) (b := 34) (by decide)
    have hrf : run (f ++ 58 :: (w ++ 42 :: r)) = f.length := run_word _ (name_word (hf.resolve_left h0)).1 (by intro b hb; simp at hb; subst hb; decide)
    have e2 := begM_yes 58 (w ++ 42 :: r)
    have d1 : (f ++ 58 :: (w ++ 42 :: r)).drop (f.length + 1) = w ++ 42 :: r := by rw [← List.drop_drop, List.drop_left]; rfl
    have d2 : (f ++ 58 :: (w ++ 42 :: r)).drop (f.length + 1 + w.length) = 42 :: r := by rw [← List.drop_drop, d1, List.drop_left]
    simp [wordC, hdF, h0, e1, hrf, e2, d1, hrw, d2, e4, w0]
    omega
theorem wordC_3 {f p r : Str} (hf : FN f) (hp : (34 : UInt8) ∉ p) : wordC (hdF f ++ 34 :: (p ++ 34 :: r)) = (.mk 3 f p 0 0 [], (hdF f ++ 34 :: (p ++ [34])).length) := by
  have hu := upC_at r hp
  by_cases h0 : f = []
  · subst h0
    have e1 := begM_yes 34 (p ++ 34 :: r)
    simp [wordC, hdF, e1, hu]
    omega
  · have e1 := word_ne (r := 58 :: 34 :: (p ++ 34 :: r)) (fn_word hf h0) (b := 34) (by decide)
    have hrf : run (f ++ 58 :: 34 :: (p ++ 34 :: r)) = f.length := run_word _ (name_word (hf.resolve_left h0)).1 (by intro b hb; simp at hb; subst hb; decide)
    have e2 := begM_yes 58 (34 :: (p ++ 34 :: r))
    have e3 := begM_yes 34 (p ++ 34 :: r)
    have hr0 : run (34 :: (p ++ 34 :: r)) = 0 := run_head (by decide)
    have d1 : (f ++ 58 :: 34 :: (p ++ 34 :: r)).drop (f.length + 1) = 34 :: (p ++ 34 :: r) := by rw [← List.drop_drop, List.drop_left]; rfl
    have d2 : (f ++ 58 :: 34 :: (p ++ 34 :: r)).drop (f.length + 1 + 1) = p ++ 34 :: r := by rw [← List.drop_drop, d1]; rfl
    simp [wordC, hdF, h0, e1, hrf, e2, d1, d2, hr0, e3, hu]
    omega
def markC (t : Str) : Query × Nat :=
  let k := (upC t 58).2
  if begM [123] (t.drop k) = true then (.mk 6 (upC t 58).1 (upC (t.drop (k + 1)) 125).1 0 0 [], k + 1 + (upC (t.drop (k + 1)) 125).2)
  else
    let a := k + (numC (t.drop k)).2
    let b := if begM [46, 46] (t.drop a) = true then a + 2 else a
    (.mk 5 (upC t 58).1 [] (numC (t.drop k)).1 (numC (t.drop b)).1 [], b + (numC (t.drop b)).2)
theorem markC_6 {f x r : Str} (hf : nameOk f = true) (hx : nameOk x = true) : markC (f ++ 58 :: 123 :: (x ++ 125 :: r)) = (.mk 6 f x 0 0 [], (f ++ 58 :: 123 :: (x ++ [125])).length) := by
  have h1 := upC_at (123 :: (x ++ 125 :: r)) (words_no (c := 58) (name_word hf).1 (by decide))
  have h2 := upC_at r (words_no (c := 125) (name_word hx).1 (by decide))
  have d1 : (f ++ 58 :: 123 :: (x ++ 125 :: r)).drop (f.length + 1) = 123 :: (x ++ 125 :: r) := by rw [← List.drop_drop, List.drop_left]; rfl
  have d2 : (f ++ 58 :: 123 :: (x ++ 125 :: r)).drop (f.length + 1 + 1) = x ++ 125 :: r := by rw [← List.drop_drop, d1]; rfl
  simp [markC, h1, d1, d2, h2, begM_yes]
  omega
theorem markC_5 {f r : Str} {lo hi : Int} (hf : nameOk f = true) (hl : -999999999 ≤ lo ∧ lo ≤ 999999999) (hh : -999999999 ≤ hi ∧ hi ≤ 999999999) (hr : Dl r) : markC (f ++ 58 :: (Lib.itoa lo ++ 46 :: 46 :: (Lib.itoa hi ++ r))) = (.mk 5 f [] lo hi [], (f ++ 58 :: (Lib.itoa lo ++ 46 :: 46 :: Lib.itoa hi)).length) := by
  have h1 := upC_at (Lib.itoa lo ++ 46 :: 46 :: (Lib.itoa hi ++ r)) (words_no (c := 58) (name_word hf).1 (by decide))
  have d1 : (f ++ 58 :: (Lib.itoa lo ++ 46 :: 46 :: (Lib.itoa hi ++ r))).drop (f.length + 1) = Lib.itoa lo ++ 46 :: 46 :: (Lib.itoa hi ++ r) := by rw [← List.drop_drop, List.drop_left]; rfl
  have h2 : begM [123] (Lib.itoa lo ++ 46 :: 46 :: (Lib.itoa hi ++ r)) = false := begM_no fun c hc hcb => by
    subst hcb
    rcases itoa_cases lo with ⟨u, hu⟩ | ⟨u, hu⟩
    · rw [hu] at hc; simp at hc
    · have hn := (decD_all u).2.1
      have hd := dec_word u
      rw [hu] at hc
      cases hx : Lib.decDigits u with
      | nil => exact hn hx
      | cons b l =>
        rw [hx] at hc hd
        simp at hc
        subst hc
        rw [List.all_cons, Bool.and_eq_true] at hd
        exact absurd hd.1 (by decide)
  have h3 := numC_at hl.1 hl.2 (r := 46 :: 46 :: (Lib.itoa hi ++ r)) (by intro b hb; simp at hb; subst hb; decide)
  have d2 : (f ++ 58 :: (Lib.itoa lo ++ 46 :: 46 :: (Lib.itoa hi ++ r))).drop (f.length + 1 + (Lib.itoa lo).length) = 46 :: 46 :: (Lib.itoa hi ++ r) := by rw [← List.drop_drop, d1, List.drop_left]
  have h4 : begM [46, 46] (46 :: 46 :: (Lib.itoa hi ++ r)) = true := begM_app [46, 46] _
  have d3 : (f ++ 58 :: (Lib.itoa lo ++ 46 :: 46 :: (Lib.itoa hi ++ r))).drop (f.length + 1 + (Lib.itoa lo).length + 2) = Lib.itoa hi ++ r := by rw [← List.drop_drop, d2]; rfl
  have h5 := numC_at hh.1 hh.2 (dl_no hr)
  simp [markC, h1, d1, h2, h3, d2, h4, d3, h5]
  omega
def untC (t : Str) (c : UInt8) : Str × Nat × Bool := if c ∈ t then (t.take (Lib.indexByte t c).toNat, (Lib.indexByte t c).toNat + 1, false) else ([], 0, true)
theorem untC_at {c : UInt8} {w : Str} (r : Str) (h : c ∉ w) : untC (w ++ c :: r) c = (w, w.length + 1, false) := by
  rw [untC, if_pos (by simp), index_at r h, Int.toNat_natCast, List.take_left]
theorem untC_le (t : Str) (c : UInt8) : (untC t c).2.1 ≤ t.length ∧ (untC t c).1.length ≤ t.length := by
  rw [untC]
  split
  · rename_i h
    obtain ⟨m, h1, h2⟩ := index_le h
    rw [h1, Int.toNat_natCast]
    simp only [List.length_take]
    omega
  · exact ⟨Nat.zero_le _, Nat.zero_le _⟩
def numE (t : Str) : Int × Nat × Bool :=
  let e := (if begM [45] t = true then 1 else 0) + run (t.drop (if begM [45] t = true then 1 else 0))
  ((numS (t.take e)).1, e, !(numS (t.take e)).2)
theorem numE_at {n : Int} (h1 : -999999999 ≤ n) (h2 : n ≤ 999999999) {r : Str} (hr : ∀ b, r.head? = some b → wordB b = false) : numE (Lib.itoa n ++ r) = (n, (Lib.itoa n).length, false) := by
  have h := congrArg Prod.snd (numC_at h1 h2 hr)
  simp only [numC] at h
  rw [numE, h, List.take_left, numS_itoa h1 h2]
  rfl
theorem numE_le (t : Str) : (numE t).2.1 ≤ t.length := numC_le t
def wordS (t : Str) : Query × Nat × Bool :=
  if begM [34] t = true then (.mk 3 [] (untC (t.drop 1) 34).1 0 0 [], 1 + (untC (t.drop 1) 34).2.1, (untC (t.drop 1) 34).2.2)
  else if begM [42] (t.drop (run t)) = true then (.mk 4 [] (t.take (run t)) 0 0 [], run t + 1, decide (run t = 0))
  else (.mk 2 [] (t.take (run t)) 0 0 [], run t, decide (run t = 0))
def inF (f : Str) (q : Query) : Query := .mk q.kind f q.text q.low q.high q.parts
def namedS (t : Str) : Query × Nat × Bool :=
  if run t ≠ 0 ∧ begM [58] (t.drop (run t)) = true then (inF (t.take (run t)) (wordS (t.drop (run t + 1))).1, run t + 1 + (wordS (t.drop (run t + 1))).2.1, (wordS (t.drop (run t + 1))).2.2)
  else wordS t
theorem wordS_2 {w r : Str} (hw : isWord w = true) (hr : Dl r) : wordS (w ++ r) = (.mk 2 [] w 0 0 [], w.length, false) := by
  obtain ⟨w0, w1⟩ := wd hw
  have hrw : run (w ++ r) = w.length := run_word r w1 (dl_no hr)
  have e1 := word_ne (r := r) hw (b := 34) (by decide)
  have e4 := dl_ne hr 42 (by decide)
  simp [wordS, e1, hrw, e4, w0]
theorem wordS_4 {w r : Str} (hw : isWord w = true) : wordS (w ++ 42 :: r) = (.mk 4 [] w 0 0 [], w.length + 1, false) := by
  obtain ⟨w0, w1⟩ := wd hw
  have hrw : run (w ++ 42 :: r) = w.length := run_word _ w1 (by intro b hb; simp at hb; subst hb; decide)
  have e1 := word_ne (r := 42 :: r) hw (b := 34) (by decide)
  simp [wordS, e1, hrw, begM_yes, w0]
theorem wordS_3 {p r : Str} (hp : (34 : UInt8) ∉ p) : wordS (34 :: (p ++ 34 :: r)) = (.mk 3 [] p 0 0 [], p.length + 2, false) := by
  simp [wordS, begM_yes, untC_at r hp]
  omega
theorem namedS_f {f x : Str} (hf : FN f) (h0 : f ≠ []) : namedS (f ++ 58 :: x) = (inF f (wordS x).1, f.length + 1 + (wordS x).2.1, (wordS x).2.2) := by
  have hrf : run (f ++ 58 :: x) = f.length := run_word _ (name_word (hf.resolve_left h0)).1 (by intro b hb; simp at hb; subst hb; decide)
  have d1 : (f ++ 58 :: x).drop (f.length + 1) = x := by rw [← List.drop_drop, List.drop_left]; rfl
  simp [namedS, hrf, d1, begM_yes, h0]
theorem namedS_2 {f w r : Str} (hf : FN f) (hw : isWord w = true) (hr : Dl r) : namedS (hdF f ++ (w ++ r)) = (.mk 2 f w 0 0 [], (hdF f ++ w).length, false) := by
  obtain ⟨w0, w1⟩ := wd hw
  by_cases h0 : f = []
  · subst h0
    have hrw : run (w ++ r) = w.length := run_word r w1 (dl_no hr)
    have e2 := dl_ne hr 58 (by decide)
    simp [namedS, hdF, hrw, e2, wordS_2 hw hr]
  · have := namedS_f (x := w ++ r) hf h0
    simp [hdF, h0, this, wordS_2 hw hr, inF, Query.kind, Query.text, Query.low, Query.high, Query.parts]
    omega
theorem namedS_4 {f w r : Str} (hf : FN f) (hw : isWord w = true) : namedS (hdF f ++ (w ++ 42 :: r)) = (.mk 4 f w 0 0 [], (hdF f ++ (w ++ [42])).length, false) := by
  obtain ⟨w0, w1⟩ := wd hw
  by_cases h0 : f = []
  · subst h0
    have hrw : run (w ++ 42 :: r) = w.length := run_word _ w1 (by intro b hb; simp at hb; subst hb; decide)
    have e2 : begM [58] (42 :: r) = false := begM_no fun c hc => by simp at hc; subst hc; decide
    simp [namedS, hdF, hrw, e2, wordS_4 hw]
  · have := namedS_f (x := w ++ 42 :: r) hf h0
    simp [hdF, h0, this, wordS_4 hw, inF, Query.kind, Query.text, Query.low, Query.high, Query.parts]
    omega
theorem namedS_3 {f p r : Str} (hf : FN f) (hp : (34 : UInt8) ∉ p) : namedS (hdF f ++ 34 :: (p ++ 34 :: r)) = (.mk 3 f p 0 0 [], (hdF f ++ 34 :: (p ++ [34])).length, false) := by
  by_cases h0 : f = []
  · subst h0
    have hr0 : run (34 :: (p ++ 34 :: r)) = 0 := run_head (by decide)
    simp [namedS, hdF, hr0, wordS_3 hp]
  · have := namedS_f (x := 34 :: (p ++ 34 :: r)) hf h0
    simp [hdF, h0, this, wordS_3 hp, inF, Query.kind, Query.text, Query.low, Query.high, Query.parts]
    omega
def markS (t : Str) : Query × Nat × Bool :=
  let k := (untC t 58).2.1
  if begM [123] (t.drop k) = true then (.mk 6 (untC t 58).1 (untC (t.drop (k + 1)) 125).1 0 0 [], k + 1 + (untC (t.drop (k + 1)) 125).2.1, (untC t 58).2.2 || (untC (t.drop (k + 1)) 125).2.2)
  else
    let a := k + (numE (t.drop k)).2.1
    let b := if begM [46, 46] (t.drop a) = true then a + 2 else a
    (.mk 5 (untC t 58).1 [] (numE (t.drop k)).1 (numE (t.drop b)).1 [], b + (numE (t.drop b)).2.1, (untC t 58).2.2 || (numE (t.drop k)).2.2 || !(begM [46, 46] (t.drop a)) || (numE (t.drop b)).2.2)
theorem markS_6 {f x r : Str} (hf : nameOk f = true) (hx : nameOk x = true) : markS (f ++ 58 :: 123 :: (x ++ 125 :: r)) = (.mk 6 f x 0 0 [], (f ++ 58 :: 123 :: (x ++ [125])).length, false) := by
  have h1 := untC_at (123 :: (x ++ 125 :: r)) (words_no (c := 58) (name_word hf).1 (by decide))
  have h2 := untC_at r (words_no (c := 125) (name_word hx).1 (by decide))
  have d1 : (f ++ 58 :: 123 :: (x ++ 125 :: r)).drop (f.length + 1) = 123 :: (x ++ 125 :: r) := by rw [← List.drop_drop, List.drop_left]; rfl
  have d2 : (f ++ 58 :: 123 :: (x ++ 125 :: r)).drop (f.length + 1 + 1) = x ++ 125 :: r := by rw [← List.drop_drop, d1]; rfl
  simp [markS, h1, d1, d2, h2, begM_yes]
  omega
theorem itoa_no (lo : Int) (r : Str) : begM [123] (Lib.itoa lo ++ r) = false := begM_no fun c hc hcb => by
  subst hcb
  rcases itoa_cases lo with ⟨u, hu⟩ | ⟨u, hu⟩
  · rw [hu] at hc; simp at hc
  · have hn := (decD_all u).2.1
    have hd := dec_word u
    rw [hu] at hc
    cases hx : Lib.decDigits u with
    | nil => exact hn hx
    | cons b l =>
      rw [hx] at hc hd
      simp at hc
      subst hc
      rw [List.all_cons, Bool.and_eq_true] at hd
      exact absurd hd.1 (by decide)
theorem markS_5 {f r : Str} {lo hi : Int} (hf : nameOk f = true) (hl : -999999999 ≤ lo ∧ lo ≤ 999999999) (hh : -999999999 ≤ hi ∧ hi ≤ 999999999) (hr : Dl r) : markS (f ++ 58 :: (Lib.itoa lo ++ 46 :: 46 :: (Lib.itoa hi ++ r))) = (.mk 5 f [] lo hi [], (f ++ 58 :: (Lib.itoa lo ++ 46 :: 46 :: Lib.itoa hi)).length, false) := by
  have h1 := untC_at (Lib.itoa lo ++ 46 :: 46 :: (Lib.itoa hi ++ r)) (words_no (c := 58) (name_word hf).1 (by decide))
  have d1 : (f ++ 58 :: (Lib.itoa lo ++ 46 :: 46 :: (Lib.itoa hi ++ r))).drop (f.length + 1) = Lib.itoa lo ++ 46 :: 46 :: (Lib.itoa hi ++ r) := by rw [← List.drop_drop, List.drop_left]; rfl
  have h2 := itoa_no lo (46 :: 46 :: (Lib.itoa hi ++ r))
  have h3 := numE_at hl.1 hl.2 (r := 46 :: 46 :: (Lib.itoa hi ++ r)) (by intro b hb; simp at hb; subst hb; decide)
  have d2 : (f ++ 58 :: (Lib.itoa lo ++ 46 :: 46 :: (Lib.itoa hi ++ r))).drop (f.length + 1 + (Lib.itoa lo).length) = 46 :: 46 :: (Lib.itoa hi ++ r) := by rw [← List.drop_drop, d1, List.drop_left]
  have h4 : begM [46, 46] (46 :: 46 :: (Lib.itoa hi ++ r)) = true := begM_app [46, 46] _
  have d3 : (f ++ 58 :: (Lib.itoa lo ++ 46 :: 46 :: (Lib.itoa hi ++ r))).drop (f.length + 1 + (Lib.itoa lo).length + 2) = Lib.itoa hi ++ r := by rw [← List.drop_drop, d2]; rfl
  have h5 := numE_at hh.1 hh.2 (dl_no hr)
  simp [markS, h1, d1, h2, h3, d2, h4, d3, h5]
  omega
theorem begM_two {a b : UInt8} {t : Str} (h1 : begM [a] t = true) (h2 : begM [b] t = true) : a = b := by
  rw [begM_cons, decide_eq_true_eq] at h1 h2
  rw [h1] at h2
  exact Option.some.inj h2
theorem put_split {d : Nat} {q t r} (h : okQ (d + 1) q = true) (ht : t = putQ q ++ r) (hr : Dl r) :
    (begM [42] t = true ∧ q = .mk 1 [] [] 0 0 []) ∨ (begM [45] t = true ∧ ∃ p, q = .mk 9 [] [] 0 0 [p] ∧ okQ d p = true ∧ t.drop 1 = putQ p ++ r)
    ∨ (begM [40] t = true ∧ ∃ k sg p ps, ((k = 7 ∧ sg = [32]) ∨ (k = 8 ∧ sg = [32, 124, 32])) ∧ q = .mk k [] [] 0 0 (p :: ps) ∧ ps ≠ [] ∧ ps.length ≤ 3 ∧ okQ d p = true ∧ (∀ p ∈ ps, okQ d p = true) ∧ t.drop 1 = putQ p ++ (tailT sg ps ++ 41 :: r) ∧ (putQ q).length = 2 + (putQ p).length + (tailT sg ps).length)
    ∨ (begM [64] t = true ∧ markC (t.drop 1) = (q, (putQ q).length - 1) ∧ markS (t.drop 1) = (q, (putQ q).length - 1, false) ∧ 0 < (putQ q).length)
    ∨ (begM [42] t = false ∧ begM [45] t = false ∧ begM [40] t = false ∧ begM [64] t = false ∧ wordC t = (q, (putQ q).length) ∧ namedS t = (q, (putQ q).length, false)) := by
  have no : ∀ {f x : Str}, FN f → (∀ b ∈ ([42, 45, 40, 64] : Str), begM [b] x = false) → ∀ b ∈ ([42, 45, 40, 64] : Str), begM [b] (hdF f ++ x) = false := fun {f x} hf hx b hb => by
    by_cases h0 : f = []
    · rw [hdF, if_pos h0, List.nil_append]; exact hx b hb
    · rw [hdF, if_neg h0, List.append_assoc]
      refine word_ne (fn_word hf h0) ?_
      simp only [List.mem_cons, List.not_mem_nil, or_false] at hb
      rcases hb with rfl | rfl | rfl | rfl <;> decide
  have now : ∀ {w x : Str}, isWord w = true → ∀ b ∈ ([42, 45, 40, 64] : Str), begM [b] (w ++ x) = false := fun {w x} hw b hb => by
    refine word_ne hw ?_
    simp only [List.mem_cons, List.not_mem_nil, or_false] at hb
    rcases hb with rfl | rfl | rfl | rfl <;> decide
  subst ht
  rcases put_cases h with rfl | ⟨f, t, rfl, h1, h2⟩ | ⟨f, t, rfl, h1, h2⟩ | ⟨f, t, rfl, h1, h2⟩ | ⟨f, lo, hi, rfl, h1, h2, h3⟩ | ⟨f, t, rfl, h1, h2⟩ | ⟨p, ps, rfl, h1, h2, h3, h4⟩ | ⟨p, ps, rfl, h1, h2, h3, h4⟩ | ⟨p, rfl, h1⟩
  · exact .inl ⟨begM_yes 42 r, rfl⟩
  · have hx := no h1 (now (x := r) h2)
    refine .inr (.inr (.inr (.inr ?_)))
    rw [put2, List.append_assoc]
    exact ⟨hx 42 (by decide), hx 45 (by decide), hx 40 (by decide), hx 64 (by decide), wordC_2 h1 h2 hr, namedS_2 h1 h2 hr⟩
  · have hp := phrase_no h2
    have hx := no (x := 34 :: (t ++ 34 :: r)) h1 (fun b hb => by
      refine begM_no fun c hc => ?_
      simp at hc; subst hc
      simp only [List.mem_cons, List.not_mem_nil, or_false] at hb
      rcases hb with rfl | rfl | rfl | rfl <;> decide)
    refine .inr (.inr (.inr (.inr ?_)))
    have e : putQ (.mk 3 f t 0 0 []) ++ r = hdF f ++ 34 :: (t ++ 34 :: r) := by rw [put3]; simp
    rw [e, put3]
    exact ⟨hx 42 (by decide), hx 45 (by decide), hx 40 (by decide), hx 64 (by decide), wordC_3 h1 hp, namedS_3 h1 hp⟩
  · have hx := no h1 (now (x := 42 :: r) h2)
    refine .inr (.inr (.inr (.inr ?_)))
    have e : putQ (.mk 4 f t 0 0 []) ++ r = hdF f ++ (t ++ 42 :: r) := by rw [put4]; simp
    rw [e, put4]
    exact ⟨hx 42 (by decide), hx 45 (by decide), hx 40 (by decide), hx 64 (by decide), wordC_4 h1 h2, namedS_4 h1 h2⟩
  · refine .inr (.inr (.inr (.inl ?_)))
    have e : putQ (.mk 5 f [] lo hi []) ++ r = 64 :: (f ++ 58 :: (Lib.itoa lo ++ 46 :: 46 :: (Lib.itoa hi ++ r))) := by rw [put5 _ _ _ (name_word h1).2.1]; simp
    have el : (putQ (.mk 5 f [] lo hi [])).length - 1 = (f ++ 58 :: (Lib.itoa lo ++ 46 :: 46 :: Lib.itoa hi)).length := by rw [put5 _ _ _ (name_word h1).2.1]; rfl
    have e0 : 0 < (putQ (.mk 5 f [] lo hi [])).length := by rw [put5 _ _ _ (name_word h1).2.1]; simp
    rw [e, el]
    exact ⟨begM_yes 64 _, markC_5 h1 h2 h3 hr, markS_5 h1 h2 h3 hr, e0⟩
  · refine .inr (.inr (.inr (.inl ?_)))
    have e : putQ (.mk 6 f t 0 0 []) ++ r = 64 :: (f ++ 58 :: 123 :: (t ++ 125 :: r)) := by rw [put6 _ _ (name_word h1).2.1]; simp
    have el : (putQ (.mk 6 f t 0 0 [])).length - 1 = (f ++ 58 :: 123 :: (t ++ [125])).length := by rw [put6 _ _ (name_word h1).2.1]; rfl
    have e0 : 0 < (putQ (.mk 6 f t 0 0 [])).length := by rw [put6 _ _ (name_word h1).2.1]; simp
    rw [e, el]
    exact ⟨begM_yes 64 _, markC_6 h1 h2, markS_6 h1 h2, e0⟩
  · refine .inr (.inr (.inl ?_))
    rw [put7]
    exact ⟨begM_yes 40 _, 7, _, p, ps, .inl ⟨rfl, rfl⟩, rfl, h1, h2, h3, h4, by simp, by simp; omega⟩
  · refine .inr (.inr (.inl ?_))
    rw [put8]
    exact ⟨begM_yes 40 _, 8, _, p, ps, .inr ⟨rfl, rfl⟩, rfl, h1, h2, h3, h4, by simp, by simp; omega⟩
  · refine .inr (.inl ?_)
    rw [put9]
    exact ⟨begM_yes 45 _, p, rfl, h1, by simp⟩
theorem wordS_le (t : Str) : (wordS t).2.1 ≤ t.length ∧ ∃ k x, (wordS t).1 = .mk k [] x 0 0 [] ∧ x.length ≤ t.length := by
  have r1 := run_le t
  have u := untC_le (t.drop 1) 34
  rw [List.length_drop] at u
  simp only [wordS]
  split
  · rename_i h
    have := begM_len h
    simp only [List.length_cons, List.length_nil] at this
    exact ⟨by simp only; omega, _, _, rfl, by omega⟩
  · split
    · rename_i h
      have := begM_len h
      rw [List.length_drop] at this
      simp only [List.length_cons, List.length_nil] at this
      exact ⟨by simp only; omega, _, _, rfl, by simp; omega⟩
    · exact ⟨by simp only; omega, _, _, rfl, by simp; omega⟩
theorem markS_le (t : Str) : (markS t).2.1 ≤ t.length ∧ ∃ k f x lo hi, (markS t).1 = .mk k f x lo hi [] ∧ f.length ≤ t.length ∧ x.length ≤ t.length := by
  have hb : ∀ (p : Str) (n : Nat), p ≠ [] → begM p (t.drop n) = true → n + p.length ≤ t.length := fun p n hp h => by
    have := begM_len h
    have := List.length_pos_iff.2 hp
    rw [List.length_drop] at *
    omega
  have u1 := untC_le t 58
  simp only [markS]
  split
  · rename_i h
    have h1 := hb _ _ (by simp) h
    have h2 := untC_le (t.drop ((untC t 58).2.1 + 1)) 125
    rw [List.length_drop] at h2
    simp only [List.length_cons, List.length_nil] at h1
    exact ⟨by simp only; omega, _, _, _, _, _, rfl, by omega, by omega⟩
  · have n1 := numE_le (t.drop (untC t 58).2.1)
    rw [List.length_drop] at n1
    split
    · rename_i h
      have h1 := hb _ _ (by simp) h
      have n2 := numE_le (t.drop ((untC t 58).2.1 + (numE (t.drop (untC t 58).2.1)).2.1 + 2))
      rw [List.length_drop] at n2
      simp only [List.length_cons, List.length_nil] at h1
      exact ⟨by simp only; omega, _, _, _, _, _, rfl, by omega, by simp⟩
    · have n2 := numE_le (t.drop ((untC t 58).2.1 + (numE (t.drop (untC t 58).2.1)).2.1))
      rw [List.length_drop] at n2
      exact ⟨by simp only; omega, _, _, _, _, _, rfl, by omega, by simp⟩
theorem tailT_cons (sg : Str) (x : Query) (l : List Query) : tailT sg (x :: l) = sg ++ (putQ x ++ tailT sg l) := by rw [tailT, List.flatMap_cons, tailT, List.append_assoc]
def MH (d : Nat) (s : Str) (a : Nat) (K : Int) (sg : Str) (p : Query) (ps : List Query) (r : Str) : Prop :=
  ((K = 7 ∧ sg = [32]) ∨ (K = 8 ∧ sg = [32, 124, 32])) ∧ ps ≠ [] ∧ ps.length ≤ 3 ∧ okQ d p = true ∧ (∀ x ∈ ps, okQ d x = true) ∧ s.drop (a + 1) = putQ p ++ (tailT sg ps ++ 41 :: r) ∧ Dl r
def MInv (B d : Nat) (s : Str) (a : Nat) (K : Int) (sg : Str) (acc : List Query) (b : Nat) : Prop :=
  a + 1 ≤ b ∧ b ≤ s.length ∧ acc.length ≤ B ∧ 1 ≤ acc.length ∧ (∀ x ∈ acc, x.Sm) ∧
  ∀ K' sg' p ps r, MH d s a K' sg' p ps r → K = K' ∧ sg = sg' ∧ ∃ n, acc.length = n + 1 ∧ n ≤ ps.length ∧ acc = p :: ps.take n ∧ s.drop b = tailT sg' (ps.drop n) ++ 41 :: r
theorem many_sign {d : Nat} {s : Str} {a : Nat} {K : Int} {sg : Str} {p : Query} {ps : List Query} {r : Str} (h : MH d s a K sg p ps r) : begM [32, 124, 32] (tailT sg ps ++ 41 :: r) = decide (sg = [32, 124, 32]) := by
  obtain ⟨h1, h2, _, _, h5, _, _⟩ := h
  cases ps with
  | nil => exact absurd rfl h2
  | cons x l =>
    rw [tailT_cons]
    rcases h1 with ⟨_, rfl⟩ | ⟨_, rfl⟩
    · obtain ⟨b, m, hm, _, hb, _⟩ := put_head (h5 x (by simp))
      rw [hm]
      have : begM [32, 124, 32] ([32] ++ (b :: m ++ tailT [32] l) ++ 41 :: r) = false := by
        rw [begM, Bool.and_eq_false_iff]
        right
        simp [hb]
      rw [this]; decide
    · rw [List.append_assoc, begM_app]; decide
theorem MInv.first {B d : Nat} {s : Str} {a : Nat} {q : Query} {b : Nat} (h1 : a + 1 ≤ b) (h2 : b ≤ s.length) (hB : 1 ≤ B) (hq : q.Sm) (hrt : ∀ q0 r, okQ d q0 = true → s.drop (a + 1) = putQ q0 ++ r → Dl r → q = q0 ∧ b = a + 1 + (putQ q0).length) :
    MInv B d s a (if begM [32, 124, 32] (s.drop b) = true then 8 else 7) (if begM [32, 124, 32] (s.drop b) = true then [32, 124, 32] else [32]) [q] b := by
  refine ⟨h1, h2, hB, Nat.le_refl _, by simpa using hq, fun K sg p ps r hM => ?_⟩
  have hsg := many_sign hM
  obtain ⟨m1, m2, m3, m4, m5, m6, m7⟩ := hM
  have htd : Dl (tailT sg ps ++ 41 :: r) := tail_dl (by rcases m1 with ⟨_, h⟩ | ⟨_, h⟩; exact .inl h; exact .inr h) ps r
  obtain ⟨rfl, hb⟩ := hrt p _ m4 m6 htd
  have hd : s.drop b = tailT sg ps ++ 41 :: r := by rw [hb, ← List.drop_drop, m6, List.drop_left]
  rw [hd, hsg]
  rcases m1 with ⟨rfl, rfl⟩ | ⟨rfl, rfl⟩
  · exact ⟨by decide, by decide, 0, rfl, Nat.zero_le _, by simp, by simp⟩
  · exact ⟨by decide, by decide, 0, rfl, Nat.zero_le _, by simp, by simp⟩
theorem MInv.step {B d : Nat} {s : Str} {a : Nat} {K : Int} {sg : Str} {acc : List Query} {b : Nat} (h : MInv B d s a K sg acc b) (hb : begM sg (s.drop b) = true) {q : Query} {c : Nat} (hq : q.Sm) (h1 : b + sg.length ≤ c) (h2 : c ≤ s.length) (hl : acc.length + 1 ≤ B)
    (hrt : ∀ q0 r, okQ d q0 = true → s.drop (b + sg.length) = putQ q0 ++ r → Dl r → q = q0 ∧ c = b + sg.length + (putQ q0).length) : MInv B d s a K sg (acc ++ [q]) c := by
  obtain ⟨i1, i2, i3, i4, i5, i6⟩ := h
  refine ⟨by omega, h2, by simpa using hl, by simp, fun x hx => ?_, fun K' sg' p ps r hM => ?_⟩
  · rcases List.mem_append.1 hx with hx | hx
    · exact i5 x hx
    · simp at hx; subst hx; exact hq
  · obtain ⟨rfl, rfl, n, n1, n2, n3, n4⟩ := i6 K' sg' p ps r hM
    obtain ⟨m1, m2, m3, m4, m5, m6, m7⟩ := hM
    refine ⟨rfl, rfl, n + 1, by simp [n1], ?_⟩
    cases hd : ps.drop n with
    | nil =>
      exfalso
      rw [n4, hd] at hb
      rcases m1 with ⟨_, rfl⟩ | ⟨_, rfl⟩
      · rw [show tailT [32] [] ++ 41 :: r = 41 :: r from rfl, begM_cons] at hb; simp at hb
      · rw [show tailT [32, 124, 32] [] ++ 41 :: r = 41 :: r from rfl] at hb
        simp [begM] at hb
    | cons x l =>
      have hx : ps[n]? = some x := by
        have := congrArg (fun y => y[0]?) hd
        simpa using this
      have hnl : n < ps.length := by
        rcases Nat.lt_or_ge n ps.length with h | h
        · exact h
        · rw [List.getElem?_eq_none h] at hx; cases hx
      have hl2 : ps.drop (n + 1) = l := by rw [← List.drop_drop, hd]; rfl
      rw [hd, tailT_cons, List.append_assoc, List.append_assoc] at n4
      have hdc : s.drop (b + sg.length) = putQ x ++ (tailT sg l ++ 41 :: r) := by rw [← List.drop_drop, n4, List.drop_left]
      obtain ⟨rfl, hc⟩ := hrt x _ (m5 x (List.mem_of_getElem? hx)) hdc (tail_dl (by rcases m1 with ⟨_, h⟩ | ⟨_, h⟩; exact .inl h; exact .inr h) l r)
      refine ⟨hnl, ?_, ?_⟩
      · rw [n3, List.take_add_one, hx]; simp
      · rw [hl2, hc, ← List.drop_drop, hdc, List.drop_left]
theorem MInv.stop {B d : Nat} {s : Str} {a : Nat} {K : Int} {sg : Str} {acc : List Query} {b : Nat} (h : MInv B d s a K sg acc b) (hb : begM sg (s.drop b) = false) {K' : Int} {sg' : Str} {p : Query} {ps : List Query} {r : Str} (hM : MH d s a K' sg' p ps r) : K = K' ∧ acc = p :: ps ∧ s.drop b = 41 :: r := by
  obtain ⟨i1, i2, i3, i4, i5, i6⟩ := h
  obtain ⟨rfl, rfl, n, n1, n2, n3, n4⟩ := i6 K' sg' p ps r hM
  cases hd : ps.drop n with
  | nil =>
    have hn : ps.length ≤ n := by simpa using hd
    rw [hd] at n4
    exact ⟨rfl, by rw [n3, List.take_of_length_le hn], n4⟩
  | cons x l =>
    exfalso
    rw [n4, hd, tailT_cons, List.append_assoc, begM_app] at hb
    cases hb
theorem MInv.full {B d : Nat} {s : Str} {a : Nat} {K : Int} {sg : Str} {acc : List Query} {b : Nat} (h : MInv B d s a K sg acc b) (hb : 5 ≤ acc.length) {K' : Int} {sg' : Str} {p : Query} {ps : List Query} {r : Str} (hM : MH d s a K' sg' p ps r) : False := by
  obtain ⟨i1, i2, i3, i4, i5, i6⟩ := h
  obtain ⟨rfl, rfl, n, n1, n2, n3, n4⟩ := i6 K' sg' p ps r hM
  have := hM.2.2.1
  omega
theorem many_end {d : Nat} {s : Str} {a : Nat} {K : Int} {sg : Str} {p : Query} {ps : List Query} {r : Str} (hM : MH d s a K sg p ps r) {b : Nat} (hb : b ≤ s.length) (h1 : a + 1 ≤ b) (h : s.drop b = 41 :: r) : b = a + 1 + (putQ p).length + (tailT sg ps).length := by
  have h2 := congrArg List.length h
  have h3 := congrArg List.length hM.2.2.2.2.2.1
  simp only [List.length_drop, List.length_append, List.length_cons] at h2 h3
  omega
end Go.Proofs.YtmanllfmgghadaaGreatDoor.PVE
