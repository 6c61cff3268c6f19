/- Numbers in decimals: what is read is what is written. -/
import Derived.Test.YtmanllfmgghadaaGreatDoorEG
import Derived.Lib.ItoaNum
import Derived.Lib.AtoiAll
set_option linter.unusedVariables false
set_option linter.unusedSimpArgs false
set_option maxRecDepth 100000
namespace Go.Proofs.YtmanllfmgghadaaGreatDoor.PVE
open PV
def digB (b : UInt8) : Bool := decide (48 ≤ b.toNat) && decide (b.toNat ≤ 57)
def valF (acc : Nat) (s : (List UInt8)) : Nat := s.foldl (fun n b => n * 10 + (b.toNat - 48)) acc
theorem valF_snoc (acc : Nat) (s : (List UInt8)) (b : UInt8) : valF acc (s ++ [b]) = valF acc s * 10 + (b.toNat - 48) := by simp [valF]
def figOk (s : (List UInt8)) : Bool := s.all digB && decide (s ≠ []) && !(decide (1 < s.length) && decide (s.getD 0 0 = 48))
def digC (u : Nat) : UInt8 := UInt8.ofNat (48 + u)
theorem digC_nat {u : Nat} (h : u < 10) : (digC u).toNat = 48 + u := by
  unfold digC
  rw [UInt8.toNat_ofNat_of_lt' (by show _ < 256; omega)]
theorem decD_small {u : Nat} (h : u < 10) : Lib.decDigits u = [digC u] := by
  rw [Lib.decDigits, dif_pos h]; rfl
theorem decD_big {u : Nat} (h : ¬ u < 10) : Lib.decDigits u = Lib.decDigits (u / 10) ++ [digC (u % 10)] := by
  rw [Lib.decDigits, dif_neg h]; rfl
theorem digC_dig {u : Nat} (h : u < 10) : digB (digC u) = true := by
  simp only [digB, digC_nat h, Bool.and_eq_true, decide_eq_true_eq]; omega
theorem decD_all (u : Nat) : (Lib.decDigits u).all digB = true ∧ Lib.decDigits u ≠ [] ∧ valF 0 (Lib.decDigits u) = u ∧ (0 < u → (Lib.decDigits u).getD 0 0 ≠ 48) := by
  induction u using Nat.strongRecOn with
  | _ u ih =>
    by_cases h : u < 10
    · rw [decD_small h]
      refine ⟨by simp [digC_dig h], by simp, ?_, fun hu => ?_⟩
      · simp [valF, digC_nat h]
      · simp only [List.getD_cons_zero]
        intro e
        have := digC_nat h
        rw [e] at this
        simp at this
        omega
    · obtain ⟨h1, h2, h3, h4⟩ := ih (u / 10) (by omega)
      rw [decD_big h]
      refine ⟨by rw [List.all_append, h1]; simp [digC_dig (show u % 10 < 10 by omega)], by simp, ?_, fun _ => ?_⟩
      · rw [valF_snoc, h3, digC_nat (by omega)]; omega
      · have h5 := h4 (by omega)
        cases hd : Lib.decDigits (u / 10) with
        | nil => exact absurd hd h2
        | cons x l => rw [hd] at h5; simpa using h5
theorem decD_len : ∀ (k u : Nat), u < 10 ^ (k + 1) → (Lib.decDigits u).length ≤ k + 1
  | 0, u, h => by rw [decD_small (by simpa using h)]; simp
  | k + 1, u, h => by
    by_cases h2 : u < 10
    · rw [decD_small h2]; simp
    · rw [decD_big h2, List.length_append]
      have := decD_len k (u / 10) (by rw [Nat.pow_succ] at h; omega)
      simp; omega
theorem digC_of {b : UInt8} (h : digB b = true) : digC (b.toNat - 48) = b ∧ b.toNat - 48 < 10 := by
  simp only [digB, Bool.and_eq_true, decide_eq_true_eq] at h
  refine ⟨?_, by omega⟩
  apply UInt8.toNat_inj.1
  rw [digC_nat (by omega)]; omega
theorem snoc_cases {α : Type} (l : List α) : l = [] ∨ ∃ m x, l = m ++ [x] := by
  rcases List.eq_nil_or_concat l with h | ⟨m, x, h⟩
  · exact .inl h
  · exact .inr ⟨m, x, by simpa using h⟩
theorem valF_pos : ∀ (n : Nat) (s : (List UInt8)), s.length = n → s.all digB = true → s ≠ [] → s.getD 0 0 ≠ 48 → 0 < valF 0 s := by
  intro n
  induction n with
  | zero => intro s hn _ hne _; exact absurd (List.length_eq_zero_iff.1 hn) hne
  | succ n ih =>
    intro s hn ha hne h0
    rcases snoc_cases s with rfl | ⟨m, x, rfl⟩
    · exact absurd rfl hne
    · rw [valF_snoc]
      by_cases hm : m = []
      · subst hm
        have hx : digB x = true := by simpa using ha
        simp only [digB, Bool.and_eq_true, decide_eq_true_eq] at hx
        have : x.toNat ≠ 48 := fun e => h0 (by simpa using UInt8.toNat_inj.1 (show x.toNat = (48 : UInt8).toNat from e))
        omega
      · have := ih m (by simpa using hn) (by rw [List.all_append] at ha; simp at ha; simpa using ha.1) hm (by cases m with
          | nil => exact absurd rfl hm
          | cons y m => simpa using h0)
        omega
theorem decD_val : ∀ (n : Nat) (s : (List UInt8)), s.length = n → figOk s = true → Lib.decDigits (valF 0 s) = s := by
  intro n
  induction n with
  | zero => intro s hn h; rw [List.length_eq_zero_iff.1 hn] at h; simp [figOk] at h
  | succ n ih =>
    intro s hn h
    rcases snoc_cases s with rfl | ⟨m, x, rfl⟩
    · simp [figOk] at h
    · simp only [figOk, Bool.and_eq_true, List.all_append, List.all_cons, List.all_nil, Bool.and_true, decide_eq_true_eq, Bool.not_eq_true', Bool.and_eq_false_iff, decide_eq_false_iff_not] at h
      obtain ⟨⟨⟨h1, h2⟩, _⟩, h3⟩ := h
      obtain ⟨h4, h5⟩ := digC_of h2
      rw [valF_snoc]
      by_cases hm : m = []
      · subst hm
        simp only [valF, List.foldl_nil, Nat.zero_mul, Nat.zero_add]
        rw [decD_small h5, h4]; rfl
      · have hml : 1 ≤ m.length := by
          have := List.length_pos_iff.2 hm; omega
        have h0 : m.getD 0 0 ≠ 48 := by
          rcases h3 with h3 | h3
          · rw [List.length_append, List.length_cons, List.length_nil] at h3; omega
          · cases m with
            | nil => exact absurd rfl hm
            | cons y m => simpa using h3
        have hp := valF_pos m.length m rfl h1 hm h0
        have h0' : ¬ m[0]?.getD 0 = 48 := by rw [← List.getD_eq_getElem?_getD]; exact h0
        have hi := ih m (by simpa using hn) (by simp [figOk, h1, hm, h0'])
        rw [decD_big (by omega), show (valF 0 m * 10 + (x.toNat - 48)) / 10 = valF 0 m by omega, show (valF 0 m * 10 + (x.toNat - 48)) % 10 = x.toNat - 48 by omega, hi, h4]
theorem valF_lt : ∀ (s : (List UInt8)) (acc : Nat), s.all digB = true → valF acc s < (acc + 1) * 10 ^ s.length := by
  intro s
  induction s with
  | nil => intro acc _; simp [valF]
  | cons b s ih =>
    intro acc h
    simp only [List.all_cons, Bool.and_eq_true] at h
    have h1 := ih (acc * 10 + (b.toNat - 48)) h.2
    have h2 := (digC_of h.1).2
    have h3 : (acc * 10 + (b.toNat - 48) + 1) * 10 ^ s.length ≤ (acc * 10 + 10) * 10 ^ s.length := Nat.mul_le_mul_right _ (by omega)
    rw [List.length_cons, Nat.pow_succ]
    have e : (acc + 1) * (10 ^ s.length * 10) = (acc * 10 + 10) * 10 ^ s.length := by
      rw [Nat.mul_comm (10 ^ s.length) 10, ← Nat.mul_assoc]; congr 1; omega
    rw [e]
    have : valF acc (b :: s) = valF (acc * 10 + (b.toNat - 48)) s := by simp [valF]
    omega
theorem parse_dig : ∀ (s : (List UInt8)) (acc : Nat), s.all digB = true → (acc + 1) * 10 ^ s.length ≤ 10 ^ 18 → Lib.parseUint10 acc s = .ok (valF acc s) := by
  intro s
  induction s with
  | nil => intro acc _ _; rfl
  | cons b s ih =>
    intro acc h hb
    simp only [List.all_cons, Bool.and_eq_true] at h
    have h0 := h.1
    simp only [digB, Bool.and_eq_true, decide_eq_true_eq] at h0
    have hpos : 1 ≤ 10 ^ s.length := Nat.pow_pos (by omega)
    have e : (acc + 1) * (10 ^ s.length * 10) = (acc * 10 + 10) * 10 ^ s.length := by
      rw [Nat.mul_comm (10 ^ s.length) 10, ← Nat.mul_assoc]; congr 1; omega
    rw [List.length_cons, Nat.pow_succ, e] at hb
    have hle : (acc * 10 + 10) * 1 ≤ (acc * 10 + 10) * 10 ^ s.length := Nat.mul_le_mul_left _ hpos
    have h3 : (acc * 10 + (b.toNat - 48) + 1) * 10 ^ s.length ≤ (acc * 10 + 10) * 10 ^ s.length := Nat.mul_le_mul_right _ (by omega)
    rw [Lib.parseUint10, if_pos h0, if_neg (by omega), if_neg (by omega), ih _ h.2 (by omega)]
    simp [valF]
def figs (s : (List UInt8)) : Int := if figOk s = true ∧ s.length ≤ 9 then valF 0 s else -1
def numS (s : (List UInt8)) : Int × Bool := if 1 < s.length ∧ s.getD 0 0 = 45 then (-figs (s.drop 1), decide (0 < figs (s.drop 1))) else (figs s, decide (0 ≤ figs s))
def numI (s : (List UInt8)) : Int × Bool := match Lib.atoiAll s with
  | .ok v => if -999999999 ≤ v ∧ v ≤ 999999999 ∧ Lib.itoa v = s then (v, true) else (0, false)
  | _ => (0, false)
theorem figOk_dec (u : Nat) : figOk (Lib.decDigits u) = true := by
  obtain ⟨h1, h2, h3, h4⟩ := decD_all u
  simp only [figOk, h1, h2, Bool.true_and, ne_eq, not_false_eq_true, decide_true, Bool.not_eq_true', Bool.and_eq_false_iff, decide_eq_false_iff_not]
  by_cases hu : u < 10
  · left; rw [decD_small hu]; simp
  · right; exact h4 (by omega)
theorem figs_dec {u : Nat} (h : u ≤ 999999999) : figs (Lib.decDigits u) = u := by
  unfold figs
  rw [if_pos ⟨figOk_dec u, decD_len 8 u (by omega)⟩, (decD_all u).2.2.1]
theorem numS_itoa {v : Int} (h1 : -999999999 ≤ v) (h2 : v ≤ 999999999) : numS (Lib.itoa v) = (v, true) := by
  unfold Lib.itoa
  split
  · have hne := (decD_all v.natAbs).2.1
    have hl : 1 ≤ (Lib.decDigits v.natAbs).length := by have := List.length_pos_iff.2 hne; omega
    unfold numS
    rw [if_pos ⟨by simp; omega, by simp⟩, List.drop_succ_cons, List.drop_zero, figs_dec (by omega)]
    simp only [Prod.mk.injEq, decide_eq_true_eq]
    omega
  · obtain ⟨h3, h4, h5, h6⟩ := decD_all v.toNat
    have h0 : (Lib.decDigits v.toNat).getD 0 0 ≠ 45 := by
      cases hd : Lib.decDigits v.toNat with
      | nil => exact absurd hd h4
      | cons x l =>
        rw [hd] at h3
        simp only [List.all_cons, Bool.and_eq_true, digB, decide_eq_true_eq] at h3
        simp only [List.getD_cons_zero]
        rintro rfl
        simp at h3
    unfold numS
    rw [if_neg (by rintro ⟨_, h⟩; exact h0 h), figs_dec (by omega)]
    simp only [Prod.mk.injEq, decide_eq_true_eq]
    omega
theorem figs_pos {s : (List UInt8)} (h : 0 ≤ figs s) : figOk s = true ∧ s.length ≤ 9 ∧ figs s = (valF 0 s : Nat) ∧ valF 0 s < 10 ^ 9 ∧ Lib.parseMag s = .ok (valF 0 s) ∧ Lib.decDigits (valF 0 s) = s := by
  unfold figs at h ⊢
  split at h
  · rename_i hc
    have hall : s.all digB = true := by have := hc.1; simp only [figOk, Bool.and_eq_true] at this; exact this.1.1
    have hne : s ≠ [] := by have := hc.1; simp only [figOk, Bool.and_eq_true, decide_eq_true_eq] at this; exact this.1.2
    have h9 : 10 ^ s.length ≤ 10 ^ 9 := Nat.pow_le_pow_right (by omega) hc.2
    have hlt := valF_lt s 0 hall
    refine ⟨hc.1, hc.2, if_pos hc, by omega, ?_, decD_val _ s rfl hc.1⟩
    unfold Lib.parseMag
    rw [if_neg hne, parse_dig s 0 hall (by omega)]
  · omega
theorem num_of {s : (List UInt8)} (h : (numS s).2 = true) : Lib.atoiAll s = .ok (numS s).1 ∧ -999999999 ≤ (numS s).1 ∧ (numS s).1 ≤ 999999999 ∧ Lib.itoa (numS s).1 = s := by
  unfold numS at h ⊢
  split at h
  · rename_i hc
    rw [if_pos hc]
    simp only [decide_eq_true_eq] at h
    obtain ⟨h1, h2, h3, h4, h5, h6⟩ := figs_pos (s := s.drop 1) (by omega)
    cases s with
    | nil => simp at hc
    | cons c r =>
      simp only [List.getD_cons_zero, List.drop_succ_cons, List.drop_zero] at *
      obtain ⟨_, rfl⟩ := hc
      rw [h3] at h ⊢
      have e : (45 : UInt8).toNat = 45 := rfl
      refine ⟨?_, by omega, by omega, ?_⟩
      · simp only [Lib.atoiAll, e, or_true, if_true, h5, not_true_eq_false, false_and, if_false, true_and]
        rw [if_neg (by omega)]
      · unfold Lib.itoa
        rw [if_pos (by omega), show (-((valF 0 r : Nat) : Int)).natAbs = valF 0 r by omega, h6]
  · rename_i hc
    rw [if_neg hc]
    simp only [decide_eq_true_eq] at h
    obtain ⟨h1, h2, h3, h4, h5, h6⟩ := figs_pos h
    rw [h3]
    refine ⟨?_, by omega, by omega, ?_⟩
    · cases s with
      | nil => simp [figOk] at h1
      | cons c r =>
        have hd : digB c = true := by simp only [figOk, Bool.and_eq_true, List.all_cons] at h1; exact h1.1.1.1
        simp only [digB, Bool.and_eq_true, decide_eq_true_eq] at hd
        have e1 : ¬ c.toNat = 43 := by omega
        have e2 : ¬ c.toNat = 45 := by omega
        simp only [Lib.atoiAll, e1, e2, or_self, if_false, h5, not_false_eq_true, true_and, false_and]
        rw [if_neg (by omega)]
    · unfold Lib.itoa
      rw [if_neg (by omega), Int.toNat_natCast, h6]
theorem num_same (s : (List UInt8)) : numI s = if (numS s).2 = true then numS s else (0, false) := by
  split
  · rename_i h
    obtain ⟨h1, h2, h3, h4⟩ := num_of h
    unfold numI
    rw [h1]
    simp only [h2, h3, h4, and_self, if_true]
    ext <;> simp [h]
  · rename_i h
    unfold numI
    split
    · rename_i v hv
      rw [if_neg]
      rintro ⟨h1, h2, h3⟩
      apply h
      rw [← h3, numS_itoa h1 h2]
    · rfl
end Go.Proofs.YtmanllfmgghadaaGreatDoor.PVE
