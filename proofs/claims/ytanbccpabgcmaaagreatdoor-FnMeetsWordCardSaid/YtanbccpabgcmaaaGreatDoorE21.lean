/- The PV engine, part 21: the machine's equations. -/
import Derived.Test.YtanbccpabgcmaaaGreatDoorE20
set_option linter.unusedVariables false
set_option linter.unusedSimpArgs false
set_option linter.unusedSectionVars false
namespace Go.Proofs.YtanbccpabgcmaaaGreatDoor.PVE
open PV

section
variable {S : Sys} {E : Env} {F : Fx}

theorem ifP_some {α β : Type} {x : Option (Prop × α)} {K : α → Option β} {r : β} : ifP x K = some r ↔ ∃ p e, x = some (p, e) ∧ p ∧ K e = some r := by
  constructor
  · intro h
    unfold ifP at h
    split at h
    · rename_i p e
      split at h
      · rename_i hp
        exact ⟨p, e, rfl, hp, h⟩
      · cases h
    · cases h
  · rintro ⟨p, e, rfl, hp, h⟩
    unfold ifP
    simp only [hp, if_true]
    exact h

def Sub (c c' : Nat → List PV → Option Ans) : Prop := ∀ f xs a, c f xs = some a → c' f xs = some a
theorem retE_none {st : St} {f : Nat} {a : Args} : retE E st f a none = none := rfl
theorem callE_mono {c c' : Nat → List PV → Option Ans} (h : Sub c c') {st : St} {f : Nat} {xs : List PV} {pe : Prop × Eff} (he : callE c E st f xs = some pe) : callE c' E st f xs = some pe := by
  unfold callE at he ⊢
  split at he
  · cases he
  · rename_i a ha
    cases hc : c f a.vs with
    | none => rw [hc] at he; simp [retE] at he
    | some ans => rw [h _ _ _ hc]; rw [hc] at he; exact he
theorem opR_call {c : Nat → List PV → Option Ans} {st : St} {f : Operand} {args : Array Operand} {tys : Array Nat} : opR c E st (.call ⟨.value f, args, tys⟩) = (match ev E st f with
    | .fn g caps => callE c E st g (args.toList.map (ev E st) ++ caps)
    | _ => none) := rfl
theorem opR_other {c : Nat → List PV → Option Ans} {st : St} {o : Op} (h : ∀ f args tys, o ≠ .call ⟨.value f, args, tys⟩) : opR c E st o = eff E st o := by
  unfold opR
  split
  · rename_i f args tys
    exact absurd rfl (h f args tys)
  · rfl
theorem op_cases (o : Op) : (∃ f args tys, o = .call ⟨.value f, args, tys⟩) ∨ ∀ f args tys, o ≠ .call ⟨.value f, args, tys⟩ := by
  by_cases h : ∃ f args tys, o = .call ⟨.value f, args, tys⟩
  · exact .inl h
  · exact .inr fun f args tys he => h ⟨f, args, tys, he⟩
theorem opR_mono {c c' : Nat → List PV → Option Ans} (h : Sub c c') {st : St} {o : Op} {pe : Prop × Eff} (he : opR c E st o = some pe) : opR c' E st o = some pe := by
  rcases op_cases o with ⟨f, args, tys, rfl⟩ | ho
  · rw [opR_call] at he ⊢
    split at he
    · rename_i g caps hf
      exact callE_mono h he
    · cases he
  · rw [opR_other ho] at he ⊢
    exact he
theorem ifP_mono {α β : Type} {x x' : Option (Prop × α)} {K : α → Option β} {r : β} (h : ∀ y, x = some y → x' = some y) (he : ifP x K = some r) : ifP x' K = some r := by
  rw [ifP_some] at he ⊢
  obtain ⟨p, e, h1, h2, h3⟩ := he
  exact ⟨p, e, h _ h1, h2, h3⟩
theorem runO_mono {c c' : Nat → List PV → Option Ans} (h : Sub c c') {o : Oper} {st : St} {K : St → Conf} {r : Conf ⊕ Ans} (he : runO c E o st K = some r) : runO c' E o st K = some r := ifP_mono (fun _ => opR_mono h) he
theorem runD_mono {c c' : Nat → List PV → Option Ans} (h : Sub c c') {o : Oper} {i : Nat} {log : List (Nat × List Nat × List Nat)} {st : St} {K : List (Nat × List Nat × List Nat) → St → Conf} {r : Conf ⊕ Ans} (he : runD c E o i log st K = some r) : runD c' E o i log st K = some r := ifP_mono (fun _ => opR_mono h) he

theorem step_mono {c c' : Nat → List PV → Option Ans} (h : Sub c c') {x : Conf} {r : Conf ⊕ Ans} (he : step c E F x = some r) : step c' E F x = some r := by
  cases x with
  | ops all l st ks =>
    cases l with
    | nil => exact he
    | cons o l =>
      simp only [step] at he ⊢
      cases hg : o.guard with
      | none => rw [hg] at he; exact runO_mono h he
      | some g =>
        obtain ⟨j, want⟩ := g
        rw [hg] at he
        simp only at he ⊢
        split at he
        case h_2 => cases he
        split at he
        · split at he
          · rename_i hb; rw [if_pos hb]; exact runO_mono h he
          · rename_i hb; rw [if_neg hb]; exact he
        · exact he
        · cases he
  | dops all i l log st ks =>
    cases l with
    | nil => exact he
    | cons o l =>
      simp only [step] at he ⊢
      cases hg : o.guard with
      | none => rw [hg] at he; exact runD_mono h he
      | some g =>
        obtain ⟨j, want⟩ := g
        rw [hg] at he
        simp only at he ⊢
        split at he
        case h_2 => cases he
        split at he
        · split at he
          · rename_i hb; rw [if_pos hb]; exact runD_mono h he
          · rename_i hb; rw [if_neg hb]; exact he
        · exact he
        · cases he
  | _ => exact he

theorem call_sub {e e' : Fx → Conf → Option Ans} (h : ∀ F c a, e F c = some a → e' F c = some a) : Sub (callOf S e) (callOf S e') := by
  intro f xs a he
  unfold callOf at he ⊢
  split at he
  · exact he
  · rename_i hl
    split at he
    · cases he
    · rename_i fu hf
      split at he
      · cases he
      · rename_i c hb
        split at he
        · rename_i hc
          rw [if_pos hc]
          exact h _ _ _ he
        · cases he
theorem ex_succ : ∀ (k : Nat) (F : Fx) (c : Conf) (a : Ans), ex S k F c = some a → ex S (k + 1) F c = some a
  | 0, F, c, a, h => by simp [ex] at h
  | k + 1, F, c, a, h => by
    have hs : Sub (callOf S (ex S k)) (callOf S (ex S (k + 1))) := call_sub (ex_succ k)
    rw [ex] at h ⊢
    split at h
    · cases h
    · rename_i c' hc
      rw [step_mono hs hc]
      exact ex_succ k F c' a h
    · rename_i b hc
      rw [step_mono hs hc]
      exact h
theorem ex_le {k k' : Nat} (h : k ≤ k') {F : Fx} {c : Conf} {a : Ans} (he : ex S k F c = some a) : ex S k' F c = some a := by
  induction h with
  | refl => exact he
  | step _ ih => exact ex_succ _ _ _ _ ih
theorem call_le {k k' : Nat} (h : k ≤ k') : Sub (callOf S (ex S k)) (callOf S (ex S k')) := call_sub fun _ _ _ he => ex_le h he

theorem R_some {f : Nat} {xs : List PV} {a : Ans} : R S f xs = some a ↔ ∃ k, callOf S (ex S k) f xs = some a := by
  constructor
  · intro h
    unfold R at h
    split at h
    · rename_i hx
      obtain ⟨k, hk⟩ := hx.choose_spec
      rw [Option.some.injEq] at h
      rw [h] at hk
      exact ⟨k, hk⟩
    · cases h
  · rintro ⟨k, hk⟩
    have hx : ∃ a k, callOf S (ex S k) f xs = some a := ⟨a, k, hk⟩
    unfold R
    rw [dif_pos hx]
    obtain ⟨k', hk'⟩ := hx.choose_spec
    have h1 := call_le (Nat.le_max_left k k') _ _ _ hk
    have h2 := call_le (Nat.le_max_right k k') _ _ _ hk'
    rw [h1] at h2
    exact h2.symm
theorem R_sub (k : Nat) : Sub (callOf S (ex S k)) (R S) := fun f xs a h => R_some.2 ⟨k, h⟩

theorem opR_compact {st : St} {o : Op} {pe : Prop × Eff} (he : opR (R S) E st o = some pe) : ∃ k, opR (callOf S (ex S k)) E st o = some pe := by
  rcases op_cases o with ⟨f, args, tys, rfl⟩ | ho
  · rw [opR_call] at he
    split at he
    · rename_i g caps hf
      unfold callE at he
      split at he
      · cases he
      · rename_i a ha
        cases hc : R S g a.vs with
        | none => rw [hc] at he; simp [retE] at he
        | some ans =>
          obtain ⟨k, hk⟩ := R_some.1 hc
          refine ⟨k, ?_⟩
          rw [opR_call, hf]
          simp only
          unfold callE
          rw [ha]
          simp only
          rw [hk]
          rw [hc] at he
          exact he
    · cases he
  · exact ⟨0, by rw [opR_other ho] at he ⊢; exact he⟩
theorem runO_compact {o : Oper} {st : St} {K : St → Conf} {r : Conf ⊕ Ans} (he : runO (R S) E o st K = some r) : ∃ k, runO (callOf S (ex S k)) E o st K = some r := by
  obtain ⟨p, e, h1, h2, h3⟩ := ifP_some.1 he
  obtain ⟨k, hk⟩ := opR_compact h1
  exact ⟨k, ifP_some.2 ⟨p, e, hk, h2, h3⟩⟩
theorem runD_compact {o : Oper} {i : Nat} {log : List (Nat × List Nat × List Nat)} {st : St} {K : List (Nat × List Nat × List Nat) → St → Conf} {r : Conf ⊕ Ans} (he : runD (R S) E o i log st K = some r) : ∃ k, runD (callOf S (ex S k)) E o i log st K = some r := by
  obtain ⟨p, e, h1, h2, h3⟩ := ifP_some.1 he
  obtain ⟨k, hk⟩ := opR_compact h1
  exact ⟨k, ifP_some.2 ⟨p, e, hk, h2, h3⟩⟩
theorem step_compact {x : Conf} {r : Conf ⊕ Ans} (he : step (R S) E F x = some r) : ∃ k, step (callOf S (ex S k)) E F x = some r := by
  cases x with
  | ops all l st ks =>
    cases l with
    | nil => exact ⟨0, he⟩
    | cons o l =>
      simp only [step] at he ⊢
      cases hg : o.guard with
      | none => rw [hg] at he; exact runO_compact he
      | some g =>
        obtain ⟨j, want⟩ := g
        rw [hg] at he
        simp only at he ⊢
        split at he
        case h_2 => cases he
        split at he
        · split at he
          · rename_i hb; simp only [hb, if_true]; exact runO_compact he
          · rename_i hb; simp only [hb, if_false]; exact ⟨0, he⟩
        · exact ⟨0, he⟩
        · cases he
  | dops all i l log st ks =>
    cases l with
    | nil => exact ⟨0, he⟩
    | cons o l =>
      simp only [step] at he ⊢
      cases hg : o.guard with
      | none => rw [hg] at he; exact runD_compact he
      | some g =>
        obtain ⟨j, want⟩ := g
        rw [hg] at he
        simp only at he ⊢
        split at he
        case h_2 => cases he
        split at he
        · split at he
          · rename_i hb; simp only [hb, if_true]; exact runD_compact he
          · rename_i hb; simp only [hb, if_false]; exact ⟨0, he⟩
        · exact ⟨0, he⟩
        · cases he
  | _ => exact ⟨0, he⟩

def goes (S : Sys) (F : Fx) (r : Option (Conf ⊕ Ans)) (a : Ans) : Prop := match r with
  | some (.inl c) => Ends S F c a
  | some (.inr b) => b = a
  | none => False
theorem ends_iff {c : Conf} {a : Ans} : Ends S F c a ↔ goes S F (step (R S) S.E F c) a := by
  constructor
  · rintro ⟨k, hk⟩
    cases k with
    | zero => simp [ex] at hk
    | succ k =>
      rw [ex] at hk
      split at hk
      · cases hk
      · rename_i c' hc
        rw [step_mono (R_sub k) hc]
        exact ⟨k, hk⟩
      · rename_i b hc
        rw [step_mono (R_sub k) hc]
        exact Option.some.inj hk
  · intro h
    cases hs : step (R S) S.E F c with
    | none => rw [hs] at h; exact h.elim
    | some r =>
      rw [hs] at h
      obtain ⟨k, hk⟩ := step_compact hs
      cases r with
      | inl c' =>
        obtain ⟨k', hk'⟩ := h
        refine ⟨max k k' + 1, ?_⟩
        rw [ex, step_mono (call_le (Nat.le_max_left k k')) hk]
        exact ex_le (Nat.le_max_right k k') hk'
      | inr b =>
        refine ⟨k + 1, ?_⟩
        rw [ex, hk]
        exact congrArg some h
theorem goes_ifP {α : Type} {x : Option (Prop × α)} {K : α → Option (Conf ⊕ Ans)} {a : Ans} : goes S F (ifP x K) a ↔ ∃ p e, x = some (p, e) ∧ p ∧ goes S F (K e) a := by
  constructor
  · intro h
    cases hx : ifP x K with
    | none => rw [hx] at h; exact h.elim
    | some r =>
      obtain ⟨p, e, h1, h2, h3⟩ := ifP_some.1 hx
      exact ⟨p, e, h1, h2, by rw [h3, ← hx]; exact h⟩
  · rintro ⟨p, e, rfl, h2, h3⟩
    unfold ifP
    simp only [h2, if_true]
    exact h3

/-- A function's answer, out of its run. -/
theorem R_of {f : Nat} {fu : Func} {c : Code} {xs : List PV} {a : Ans} {ts : List ResultVar} {cm : CM} {ns : List Nat} (hl : S.lib f xs = none) (hf : S.P.funcs[f]? = some fu) (hb : fu.body = some c) (hc : fnChk fu c = true) (hcm : S.E.M f = cm) (hm : cm.modes.length = xs.length) (hn : xs.length ≤ fu.ntmps)
    (hts : fu.results.toList = ts) (hns : fu.resultTypes.toList.map (nilSz S.E) = ns) (h : Ends S ⟨ts, ns, cm, S.X f⟩ (.run c (entry xs) []) a) : R S f xs = some a := by
  obtain ⟨k, hk⟩ := h
  refine R_some.2 ⟨k, ?_⟩
  subst hcm hts hns
  unfold callOf
  rw [hl]
  simp only
  rw [hf]
  simp only
  rw [hb]
  simp only
  rw [if_pos ⟨hc, hm, hn⟩]
  exact hk
theorem R_lib {f : Nat} {xs : List PV} {a : Ans} (hl : S.lib f xs = some a) : R S f xs = some a := R_some.2 ⟨0, by unfold callOf; rw [hl]⟩

/-- A loop, by a measure. -/
theorem ends_loop {c : Code} {ks : List Fr} {a : Ans} {σ : Type} (X : σ → St) (I : σ → Prop) (m : σ → Nat) (s0 : σ) (hI : I s0)
    (h : ∀ s, I s → (∀ s', I s' → m s' < m s → Ends S F (.head c (X s') ks) a) → Ends S F (.head c (X s) ks) a) : Ends S F (.head c (X s0) ks) a := by
  have key : ∀ n s, m s < n → I s → Ends S F (.head c (X s) ks) a := by
    intro n
    induction n with
    | zero => intro s hs; omega
    | succ n ih => intro s hs hI; exact h s hI fun s' hI' hlt => ih s' (by omega) hI'
  exact key _ _ (Nat.lt_succ_self _) hI
end
end Go.Proofs.YtanbccpabgcmaaaGreatDoor.PVE
