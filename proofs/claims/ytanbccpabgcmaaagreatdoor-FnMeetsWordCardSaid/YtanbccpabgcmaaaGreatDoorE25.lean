/- The PV engine, part 25: the machine is sound: a contract out of its run. -/
import Derived.Test.YtanbccpabgcmaaaGreatDoorE24
set_option linter.unusedVariables false
set_option linter.unusedSimpArgs false
set_option linter.unusedSectionVars false
namespace Go.Proofs.YtanbccpabgcmaaaGreatDoor.PVE
open PV

section
variable {P : Program} {E : Env} {w0 : World} {R0 : Nat → Prop} {F0 : List Nat} {gh : Nat → Value} {n : Nat} {Fr : Nat → Prop} {R : Nat → Prop} {σ : Nat → Option Hd} {fps : Nat → List Nat} {st : St} {a : Act} {w : World}

/-! ### The cut -/
mutual
theorem V.ren {σ' : Nat → Option Hd} {ρ : Nat → Nat} : ∀ (pv : PV) (v : Value), (∀ r ∈ hands pv, σ' (ρ r) = σ r) → pv.okr → V w R σ pv v [] → V w R σ' (pv.ren ρ) v []
  | .own r, v, hs, _, h => by simp only [PV.ren, V] at h ⊢; rw [hs r (by simp [hands])]; exact h
  | .addr r i o, v, hs, _, h => by simp only [PV.ren, V] at h ⊢; rw [hs r (by simp [hands])]; exact h
  | .vw r i o, v, hs, _, h => by simp only [PV.ren, V] at h ⊢; rw [hs r (by simp [hands])]; exact h
  | .agg cs, v, hs, hk, h => by
    simp only [PV.ren, V] at h ⊢
    obtain ⟨us, h1, h2⟩ := h
    exact ⟨us, h1, Cs.ren cs us (by simpa [hands] using hs) hk h2⟩
  | .fn f cs, v, hs, hk, h => by
    simp only [PV.ren, V] at h ⊢
    obtain ⟨us, h1, h2, h3⟩ := h
    exact ⟨us, h1, h2, Ts.ren cs us (by simpa [hands] using hs) hk h3⟩
  | .tup cs, v, hs, hk, h => by
    simp only [PV.ren, V] at h ⊢
    obtain ⟨us, h1, h2⟩ := h
    exact ⟨us, h1, Ts.ren cs us (by simpa [hands] using hs) hk h2⟩
  | .undef, _, _, _, h | .void, _, _, _, h | .bool _, _, _, _, h | .int _ _, _, _, _, h | .str _, _, _, _, h | .lit _, _, _, _, h | .nilS, _, _, _, h | .ifc, _, _, _, h => by
    simp only [PV.ren, V] at h ⊢ <;> exact h
  | .sl es, v, _, hk, h => V.free (.sl es) v [] hk h
  | .slo sz es, v, _, hk, h => V.free (.slo sz es) v [] hk h
  | .pro cs, v, _, hk, h => V.free (.pro cs) v [] hk h
  | .pto cs, v, _, hk, h => V.free (.pto cs) v [] hk h
theorem Cs.ren {σ' : Nat → Option Hd} {ρ : Nat → Nat} : ∀ (cs : List PV) (us : List Value), (∀ r ∈ handsL cs, σ' (ρ r) = σ r) → PV.okrL cs → Cs w R σ cs us [] → Cs w R σ' (PV.renL ρ cs) us []
  | [], us, _, _, h => by simpa only [PV.renL, Cs] using h
  | c :: cs, us, hs, hk, h => by
    simp only [PV.renL, Cs] at h ⊢
    obtain ⟨u, us', f1, f2, rfl, h0, h1, h2, h3⟩ := h
    obtain ⟨rfl, rfl⟩ : f1 = [] ∧ f2 = [] := by simpa using h3.symm
    exact ⟨u, us', [], [], rfl, h0, V.ren c u (fun r hr => hs r (by simp [handsL, hr])) hk.1 h1, Cs.ren cs us' (fun r hr => hs r (by simp [handsL, hr])) hk.2 h2, rfl⟩
theorem Ts.ren {σ' : Nat → Option Hd} {ρ : Nat → Nat} : ∀ (cs : List PV) (us : List Value), (∀ r ∈ handsL cs, σ' (ρ r) = σ r) → PV.okrL cs → Ts w R σ cs us [] → Ts w R σ' (PV.renL ρ cs) us []
  | [], us, _, _, h => by simpa only [PV.renL, Ts] using h
  | c :: cs, us, hs, hk, h => by
    simp only [PV.renL, Ts] at h ⊢
    obtain ⟨u, us', f1, f2, rfl, h1, h2, h3⟩ := h
    obtain ⟨rfl, rfl⟩ : f1 = [] ∧ f2 = [] := by simpa using h3.symm
    exact ⟨u, us', [], [], rfl, V.ren c u (fun r hr => hs r (by simp [handsL, hr])) hk.1 h1, Ts.ren cs us' (fun r hr => hs r (by simp [handsL, hr])) hk.2 h2, rfl⟩
end

theorem idx_get {r : Nat} : ∀ {hs : List Nat}, r ∈ hs → hs[idx r hs]? = some r
  | q :: hs, h => by
    by_cases hq : q = r
    · simp [idx, hq]
    · simp only [idx, hq, if_false, List.getElem?_cons_succ]
      exact idx_get ((List.mem_cons.1 h).resolve_left fun h => hq h.symm)
theorem addH_mem {r q : Nat} : ∀ {hs : List Nat}, r ∈ addH q hs ↔ r = q ∨ r ∈ hs
  | [] => by simp [addH]
  | x :: hs => by
    simp only [addH]
    split
    · rename_i hx
      simp only [List.mem_cons]
      constructor
      · exact .inr
      · rintro (h | h)
        · exact .inl (h.trans hx.symm)
        · exact h
    · simp only [List.mem_cons, addH_mem (hs := hs)]
      constructor
      · rintro (h | h | h) <;> simp [h]
      · rintro (h | h | h) <;> simp [h]
theorem dedup_mem : ∀ {rs acc : List Nat} {r : Nat}, r ∈ rs ∨ r ∈ acc → r ∈ dedup rs acc
  | [], acc, r, h => by simpa [dedup] using h
  | q :: rs, acc, r, h => by
    simp only [dedup]
    refine dedup_mem ?_
    rcases h with h | h
    · rcases List.mem_cons.1 h with rfl | h
      · exact .inr (addH_mem.2 (.inl rfl))
      · exact .inl h
    · exact .inr (addH_mem.2 (.inr h))
theorem pairs_at {hs : List Nat} (s : St) : ∀ (L : List Nat) (t : Nat), ((pairsOf hs s L).lookup t).getD .undef = .undef ∨ (t ∈ L ∧ ((pairsOf hs s L).lookup t).getD .undef = (s.temps t).ren (fun r => idx r hs))
  | [], t => .inl rfl
  | x :: L, t => by
    simp only [pairsOf, List.lookup_cons]
    by_cases hx : t = x
    · subst hx
      right
      simp
    · have : (t == x) = false := by simpa using hx
      rw [this]
      rcases pairs_at s L t with h | ⟨h1, h2⟩
      · exact .inl h
      · exact .inr ⟨by simp [h1], h2⟩
theorem okrL_mem {c : PV} : ∀ {cs : List PV}, PV.okrL cs → c ∈ cs → c.okr
  | x :: cs, h, hc => by
    rcases List.mem_cons.1 hc with rfl | hc
    · exact h.1
    · exact okrL_mem h.2 hc
theorem freeL_mem {c : PV} : ∀ {cs : List PV}, PV.freeL cs → c ∈ cs → c.free
  | x :: cs, h, hc => by
    rcases List.mem_cons.1 hc with rfl | hc
    · exact h.1
    · exact freeL_mem h.2 hc
theorem foldAll_sound (h : Rel w0 R0 F0 gh E.G n Fr R σ fps st a w) : ∀ (hs : List Nat) (pvs : List PV) (l : List Nat), foldAll st.store hs = some (pvs, l) →
    ∃ fs : List (List Nat), fs.length = hs.length ∧ pvs.length = hs.length ∧ (∀ (i r : Nat) (pv : PV), hs[i]? = some r → pvs[i]? = some pv → ∃ k f, fs[i]? = some f ∧ σ r = some k ∧ V w R σ pv k.hdr f ∧ RootTy k pv) ∧ fs.flatten.Perm (l.flatMap fps)
  | [], pvs, l, he => by
    simp only [foldAll, Option.some.injEq, Prod.mk.injEq] at he
    obtain ⟨rfl, rfl⟩ := he
    exact ⟨[], rfl, rfl, by simp, by simp⟩
  | r :: hs, pvs, l, he => by
    simp only [foldAll] at he
    split at he
    case h_2 => cases he
    rename_i pv l1 pvs' l2 h1 h2
    simp only [Option.some.injEq, Prod.mk.injEq] at he
    obtain ⟨rfl, rfl⟩ := he
    obtain ⟨k, f, k1, k2, k3, k4⟩ := fold_sound h 4 r _ _ h1
    obtain ⟨fs, i1, i2, i3, i4⟩ := foldAll_sound h hs _ _ h2
    refine ⟨f :: fs, by simp [i1], by simp [i2], fun i q p hq hp => ?_, by rw [List.flatten_cons, List.flatMap_append]; exact k4.append i4⟩
    cases i with
    | zero =>
      simp at hq hp
      subst hq hp
      exact ⟨k, f, rfl, k1, k2, k3⟩
    | succ i => simpa using i3 i q p (by simpa using hq) (by simpa using hp)

theorem flat_mem {b : Nat} : ∀ {fs : List (List Nat)} {i : Nat}, b ∈ (fs[i]?).getD [] → b ∈ fs.flatten
  | [], i, h => by simp at h
  | f :: fs, 0, h => by simp at h; simp [h]
  | f :: fs, i + 1, h => by
    rw [List.getElem?_cons_succ] at h
    rw [List.flatten_cons]
    exact List.mem_append_right _ (flat_mem h)
theorem flat_nodup : ∀ {fs : List (List Nat)}, fs.flatten.Nodup → (∀ i : Nat, ((fs[i]?).getD []).Nodup) ∧ ∀ i j : Nat, i ≠ j → ∀ b ∈ (fs[i]?).getD [], b ∉ (fs[j]?).getD []
  | [], _ => ⟨by simp, by simp⟩
  | f :: fs, h => by
    rw [List.flatten_cons, List.nodup_append] at h
    obtain ⟨h1, h2, h3⟩ := h
    obtain ⟨i1, i2⟩ := flat_nodup h2
    refine ⟨fun i => ?_, fun i j hij b hb hb' => ?_⟩
    · cases i with
      | zero => simpa using h1
      | succ i => simpa using i1 i
    · cases i with
      | zero =>
        cases j with
        | zero => exact hij rfl
        | succ j => exact h3 b (by simpa using hb) b (flat_mem (i := j) (by simpa using hb')) rfl
      | succ i =>
        cases j with
        | zero => exact h3 b (by simpa using hb') b (flat_mem (i := i) (by simpa using hb)) rfl
        | succ j => exact i2 i j (by omega) b (by simpa using hb) (by simpa using hb')

theorem cut_sound (h : RelX E w0 R0 F0 gh n st a w) {L : List Nat} {p : Prop} {s : St} (he : cutS L st = some (p, s)) (hp : p) : RelX E w0 R0 F0 gh n s a w := by
  obtain ⟨R, σ, fps, h⟩ := h
  unfold cutS at he
  split at he
  · cases he
  rename_i pvs l hfo
  simp only [Option.some.injEq, Prod.mk.injEq] at he
  obtain ⟨rfl, rfl⟩ := he
  obtain ⟨hl, hfree, hokr⟩ := hp
  obtain ⟨fs, i1, i2, i3, i4⟩ := foldAll_sound h _ _ _ hfo
  generalize hhs : dedup (handsL (L.map st.temps)) [] = hs at *
  have hnd := flat_nodup (i4.nodup_iff.2 (perm_nodup h hl))
  have hin : ∀ i, ∀ b ∈ (fs[i]?).getD [], ∃ x, b ∈ fps x := fun i b hb => by
    obtain ⟨x, _, hx⟩ := List.mem_flatMap.1 (i4.mem_iff.1 (flat_mem hb)); exact ⟨x, hx⟩
  refine ⟨R, fun i => (hs[i]?).bind σ, fun i => (fs[i]?).getD [], ⟨fun t => ?_, fun r x hx => ?_, fun r hx => ?_, hnd.1, hnd.2, fun r b hb => ?_, h.Rb, h.R0R, h.keep, h.sz, h.tape, h.os, h.out, fun r hr => ?_, h.gl, h.nt, h.df⟩⟩
  · have htm := h.tm t
    show V w R _ (((pairsOf hs st L).lookup t).getD .undef) _ []
    rcases pairs_at (hs := hs) st L t with hu | ⟨h1, h2⟩
    · rw [hu]; simp [V]
    · rw [h2]
      refine V.ren _ _ (fun r hr => ?_) (okrL_mem hokr (List.mem_map_of_mem h1)) htm
      have : r ∈ hs := by rw [← hhs]; exact dedup_mem (.inl (handsL_mem (List.mem_map_of_mem h1) r hr))
      rw [idx_get this]
      rfl
  · simp only [mkSt] at hx
    cases hpv : pvs[r]? with
    | none => rw [hpv] at hx; cases hx
    | some pv =>
      rw [hpv] at hx
      simp only [Option.map_some, Option.some.injEq] at hx
      subst hx
      have hlt : r < hs.length := by rw [← i2]; exact (List.getElem?_eq_some_iff.1 hpv).1
      have hr : hs[r]? = some hs[r] := List.getElem?_eq_getElem hlt
      obtain ⟨k, f, k1, k2, k3, k4⟩ := i3 r _ pv hr hpv
      refine ⟨k, by rw [hr]; exact k2, ?_, k4⟩
      simp only [k1, Option.getD_some]
      exact V.free _ _ _ (freeL_mem hfree (List.mem_of_getElem? hpv)) k3
  · simp only [mkSt] at hx
    have : pvs.length ≤ r := by
      refine Nat.le_of_not_lt fun hlt => ?_
      rw [List.getElem?_eq_getElem hlt] at hx
      cases hx
    try simp only
    rw [List.getElem?_eq_none (by omega)]
    rfl
  · obtain ⟨x, hx⟩ := hin r b hb
    exact h.fb x b hx
  · have hr' : pvs.length ≤ r := hr
    refine ⟨by rw [List.getElem?_eq_none (by omega)]; rfl, ?_⟩
    simp [mkSt, List.getElem?_eq_none hr']

/-! ### The run -/
theorem dstOk_of {n : Nat} {d : Option Nat} (h : dstB n d = true) : dstOk n d := by
  cases d with
  | none => trivial
  | some d => simpa [dstB, dstOk] using h

variable {S : Sys} {F : Fx}
theorem ex_step {k : Nat} {c : Conf} {ans : Ans} (h : ex S k F c = some ans) : ∃ k', k = k' + 1 ∧ ∃ r, step (callOf S (ex S k')) S.E F c = some r ∧ (match r with
    | .inl c' => ex S k' F c' = some ans
    | .inr b => b = ans) := by
  cases k with
  | zero => simp [ex] at h
  | succ k' =>
    refine ⟨k', rfl, ?_⟩
    rw [ex] at h
    split at h
    · cases h
    · rename_i c' hc; exact ⟨_, hc, h⟩
    · rename_i b hc; exact ⟨_, hc, Option.some.inj h⟩
/-- Where the run goes on, when a part of the code is left. -/
def after (S : Sys) (F : Fx) (ks : List PVE.Fr) (ans : Ans) (k : Nat) (e : Exit) (s : St) : Prop := match e with
  | .normal => ∃ j, j < k ∧ ex S j F (.back s ks) = some ans
  | .exit i => ∃ j, j < k ∧ ex S j F (.exit i s ks) = some ans
  | .ret => ∃ p, finR S.E F s = some (p, ans) ∧ p
  | _ => False
theorem after.mono {ks : List PVE.Fr} {ans : Ans} {k k' : Nat} (hk : k ≤ k') {e : Exit} {s : St} (h : after S F ks ans k e s) : after S F ks ans k' e s := by
  cases e <;> simp only [after] at h ⊢
  · obtain ⟨j, h1, h2⟩ := h; exact ⟨j, by omega, h2⟩
  · obtain ⟨j, h1, h2⟩ := h; exact ⟨j, by omega, h2⟩
  · exact h
def afterX (S : Sys) (F : Fx) (w0 : World) (R0 : Nat → Prop) (F0 : List Nat) (gh : Nat → Value) (n : Nat) (ks : List PVE.Fr) (ans : Ans) (k : Nat) (e : Exit) (a : Act) (w : World) : Prop := ∃ s, RelX S.E w0 R0 F0 gh n s a w ∧ after S F ks ans k e s

theorem finish_some {st : St} {r : Conf ⊕ Ans} (h : finish E F st = some r) : ∃ p b, finR E F st = some (p, b) ∧ p ∧ r = .inr b := by
  obtain ⟨p, b, h1, h2, h3⟩ := ifP_some.1 h
  exact ⟨p, b, h1, h2, (Option.some.inj h3).symm⟩
theorem enter_some {c : Code} {st : St} {ks : List PVE.Fr} {r : Conf ⊕ Ans} (h : enter F c st ks = some r) : ∃ L p s, cutS L st = some (p, s) ∧ p ∧ r = .inl (.head c s ks) := by
  unfold enter at h
  split at h
  case h_2 => cases h
  rename_i L hL
  obtain ⟨p, s, h1, h2, h3⟩ := ifP_some.1 h
  exact ⟨L, p, s, h1, h2, (Option.some.inj h3).symm⟩

section sound
variable (hT : TyOk S.P S.E.T) (hS : SOk S.P S.E.S) (hm : S.P.follows .mixedOrders = true)
include hT hS hm

theorem ops_sound {K : Nat} (hcall : CallOk S.P S.E (callOf S (ex S K))) {ops : Array Oper} {Qx : Exit → Act → World → Prop} {ks : List PVE.Fr} {ans : Ans} :
    ∀ (l : List Oper) (k : Nat) (st : St) (a : Act) (w : World), k ≤ K + 1 → l.all (fun o => dstB n o.dst) = true → (∀ s a w, RelX S.E w0 R0 F0 gh n s a w → after S F ks ans k .normal s → Qx .normal a w) →
      RelX S.E w0 R0 F0 gh n st a w → ex S k F (.ops ops l st ks) = some ans → wpList S.P ops Qx l a w
  | [], k, st, a, w, hk, _, hQ, h, hx => by
    obtain ⟨k', rfl, r, hr, hx⟩ := ex_step hx
    simp only [step, Option.some.injEq] at hr
    subst hr
    exact hQ st a w h ⟨k', Nat.lt_succ_self _, hx⟩
  | o :: l, k, st, a, w, hk, hd, hQ, h, hx => by
    obtain ⟨k', rfl, r, hr, hx⟩ := ex_step hx
    simp only [List.all_cons, Bool.and_eq_true] at hd
    have hdo := dstOk_of hd.1
    have hc' : CallOk S.P S.E (callOf S (ex S k')) := fun f xs b hb => hcall f xs b (call_le (show k' ≤ K by omega) _ _ _ hb)
    have rest : ∀ st' a' w', RelX S.E w0 R0 F0 gh n st' a' w' → ex S k' F (.ops ops l st' ks) = some ans → wpList S.P ops Qx l a' w' := fun st' a' w' h' hx' =>
      ops_sound hcall l k' st' a' w' (by omega) hd.2 (fun s a w hr haf => hQ s a w hr (haf.mono (Nat.le_succ _))) h' hx'
    have run : ∀ r, runO (callOf S (ex S k')) S.E o st (fun s => .ops ops l s ks) = some r → (match r with
        | .inl c' => ex S k' F c' = some ans
        | .inr b => b = ans) → o.wp S.P a w (wpList S.P ops Qx l) Qx := by
      intro r hr hx
      obtain ⟨p, e, h1, h2, h3⟩ := ifP_some.1 hr
      obtain rfl := Option.some.inj h3
      refine opR_sound hT hS hc' h hdo h1 h2 (fun r hr _ => hr) fun w' u hr' => rest _ _ _ (hr'.of (fun r hr => ?_) rfl rfl) hx
      have := opR_nx h1
      have hr2 : e.nx ≤ r := hr
      exact ⟨Nat.le_trans this hr2, by omega⟩
    unfold wpList
    simp only [step] at hr
    cases hg : o.guard with
    | none =>
      rw [hg] at hr
      rw [if_pos (by simp [Region.wanted, hg])]
      exact .inl (run r hr hx)
    | some g =>
      obtain ⟨j, want⟩ := g
      rw [hg] at hr
      simp only at hr
      cases hj : dstAt ops j with
      | none => rw [hj] at hr; cases hr
      | some d =>
        rw [hj] at hr
        simp only at hr
        split at hr
        · rename_i b hb
          have hy := yield_bool h hj hb
          split at hr
          · rename_i hbw
            rw [if_pos (by simp [Region.wanted, hg, hy, hbw])]
            rw [setT_same (by rw [← hbw]; exact ev_bool hb)] at hr
            exact .inl (run r hr hx)
          · rename_i hbw
            rw [if_neg (by simp [Region.wanted, hg, hy, hbw])]
            obtain rfl := Option.some.inj hr
            have hbw' : b = !want := by cases b <;> cases want <;> simp_all
            simp only at hx
            rw [setT_same (by rw [← hbw']; exact ev_bool hb)] at hx
            exact rest (st.skip o.dst) _ _ (h.skip hdo) hx
        · rename_i hb
          have hy := yield_void h hj hb
          rw [if_neg (by simp [Region.wanted, hg, hy])]
          obtain rfl := Option.some.inj hr
          exact rest (st.skip o.dst) _ _ (h.skip hdo) hx
        · cases hr

theorem log_mem {i j : Nat} {T W : List Nat} {log : List (Nat × List Nat × List Nat)} {x : Nat × List Nat × List Nat} (h : x ∈ log) : x ∈ addLog i T W log := by
  unfold addLog
  split
  · exact h
  · exact List.mem_cons_of_mem _ h
omit hT hS hm in
theorem dops_parts {K : Nat} {ops : Array Oper} {ks : List PVE.Fr} {ans : Ans} :
    ∀ (l : List Oper) (i k : Nat) (log : List (Nat × List Nat × List Nat)) (st : St), k ≤ K + 1 → (∀ j, l[j]? = ops[i + j]?) → l.all (fun o => dstB n o.dst) = true → ex S k F (.dops ops i l log st ks) = some ans →
      ∃ (Sf : Nat → St) (T W : Nat → List Nat) (logF : List (Nat × List Nat × List Nat)), Sf i = st ∧ (∃ j, j < k ∧ ex S j F (.back (Sf (i + l.length)) ks) = some ans) ∧ (∀ j o, i ≤ j → ops[j]? = some o → StepD (callOf S (ex S K)) S.E n ops o (Sf j) (Sf (j + 1)) (T j) (W j)) ∧
        logOk ops logF = true ∧ (∀ x ∈ log, x ∈ logF) ∧ ∀ j, i ≤ j → j < i + l.length → (T j ++ W j).isEmpty = false → (j, T j ++ W j, W j) ∈ logF
  | [], i, k, log, st, hk, hl, _, hx => by
    obtain ⟨k', rfl, r, hr, hx⟩ := ex_step hx
    simp only [step] at hr
    split at hr
    case isFalse => cases hr
    rename_i hlog
    obtain rfl := Option.some.inj hr
    refine ⟨fun _ => st, fun _ => [], fun _ => [], log, rfl, ⟨k', Nat.lt_succ_self _, hx⟩, fun j o hj ho => ?_, hlog, fun x hx => hx, fun j h1 h2 => by simp at h2; omega⟩
    have h1 := hl (j - i)
    rw [show i + (j - i) = j by omega, ho] at h1
    simp at h1
  | o :: l, i, k, log, st, hk, hl, hd, hx => by
    obtain ⟨k', rfl, r, hr, hx⟩ := ex_step hx
    simp only [List.all_cons, Bool.and_eq_true] at hd
    have hdo := dstOk_of hd.1
    have hi : ops[i]? = some o := by simpa using (hl 0).symm
    have hl' : ∀ j, l[j]? = ops[i + 1 + j]? := fun j => by have := hl (j + 1); rw [List.getElem?_cons_succ] at this; rw [this]; congr 1; omega
    -- what the first step is, and what follows
    have key : ∀ (s' : St) (T0 W0 : List Nat) (log' : List (Nat × List Nat × List Nat)), StepD (callOf S (ex S K)) S.E n ops o st s' T0 W0 → ex S k' F (.dops ops (i + 1) l log' s' ks) = some ans → (∀ x ∈ log, x ∈ log') → ((T0 ++ W0).isEmpty = false → (i, T0 ++ W0, W0) ∈ log') →
        ∃ (Sf : Nat → St) (T W : Nat → List Nat) (logF : List (Nat × List Nat × List Nat)), Sf i = st ∧ (∃ j, j < k' + 1 ∧ ex S j F (.back (Sf (i + (o :: l).length)) ks) = some ans) ∧ (∀ j o, i ≤ j → ops[j]? = some o → StepD (callOf S (ex S K)) S.E n ops o (Sf j) (Sf (j + 1)) (T j) (W j)) ∧
        logOk ops logF = true ∧ (∀ x ∈ log, x ∈ logF) ∧ ∀ j, i ≤ j → j < i + (o :: l).length → (T j ++ W j).isEmpty = false → (j, T j ++ W j, W j) ∈ logF := by
      intro s' T0 W0 log' hst hx' hlog hlogi
      obtain ⟨Sf, T, W, logF, g1, ⟨j0, g2, g3⟩, g4, g5, g6, g7⟩ := dops_parts (K := K) l (i + 1) k' log' s' (by omega) hl' hd.2 hx'
      refine ⟨fun j => if j = i then st else Sf j, fun j => if j = i then T0 else T j, fun j => if j = i then W0 else W j, logF, by simp, ⟨j0, by omega, ?_⟩, fun j o' hj ho => ?_, g5, fun x hx => g6 x (hlog x hx), fun j h1 h2 h3 => ?_⟩
      · have : ¬ i + (o :: l).length = i := by simp
        simp only [this, if_false]
        rw [show i + (o :: l).length = i + 1 + l.length by simp; omega]
        exact g3
      · by_cases hji : j = i
        · subst hji
          rw [hi] at ho
          obtain rfl := Option.some.inj ho
          have : ¬ j + 1 = j := by omega
          simp only [this, if_true, if_false, g1]
          exact hst
        · have : ¬ j + 1 = i := by omega
          simp only [hji, this, if_false]
          exact g4 j o' (by omega) ho
      · by_cases hji : j = i
        · subst hji
          simp only [if_true] at h3 ⊢
          exact g6 _ (hlogi h3)
        · simp only [hji, if_false] at h3 ⊢
          exact g7 j (by omega) (by simp at h2; omega) h3
    have hup : Sub (callOf S (ex S k')) (callOf S (ex S K)) := call_le (show k' ≤ K by omega)
    have run : ∀ r, (o.guard = none ∨ ∃ g want d, o.guard = some (g, want) ∧ dstAt ops g = some d ∧ ev S.E st (.tmp d) = .bool want) → runD (callOf S (ex S k')) S.E o i log st (fun log s => .dops ops (i + 1) l log s ks) = some r → (match r with
        | .inl c' => ex S k' F c' = some ans
        | .inr b => b = ans) → ∃ (Sf : Nat → St) (T W : Nat → List Nat) (logF : List (Nat × List Nat × List Nat)), Sf i = st ∧ (∃ j, j < k' + 1 ∧ ex S j F (.back (Sf (i + (o :: l).length)) ks) = some ans) ∧ (∀ j o, i ≤ j → ops[j]? = some o → StepD (callOf S (ex S K)) S.E n ops o (Sf j) (Sf (j + 1)) (T j) (W j)) ∧
        logOk ops logF = true ∧ (∀ x ∈ log, x ∈ logF) ∧ ∀ j, i ≤ j → j < i + (o :: l).length → (T j ++ W j).isEmpty = false → (j, T j ++ W j, W j) ∈ logF := by
      intro r hgu hr hx
      obtain ⟨p, e, h1, h2, h3⟩ := ifP_some.1 hr
      obtain rfl := Option.some.inj h3
      refine key _ (touchOp S.E st o.op) e.W _ ⟨hdo, .inl ⟨hgu, p, e, opR_mono hup h1, h2, rfl, rfl, rfl⟩⟩ hx (fun x hx => ?_) (fun hne => ?_)
      · unfold addLog
        split
        · exact hx
        · exact List.mem_cons_of_mem _ hx
      · unfold addLog
        rw [hne]
        simp
    simp only [step] at hr
    cases hg : o.guard with
    | none =>
      rw [hg] at hr
      exact run r (.inl hg) hr hx
    | some g =>
      obtain ⟨j, want⟩ := g
      rw [hg] at hr
      simp only at hr
      cases hj : dstAt ops j with
      | none => rw [hj] at hr; cases hr
      | some d =>
        rw [hj] at hr
        simp only at hr
        split at hr
        · rename_i b hb
          split at hr
          · rename_i hbw
            rw [setT_same (by rw [← hbw]; exact ev_bool hb)] at hr
            exact run r (.inr ⟨j, want, d, hg, hj, by rw [hb, hbw]⟩) hr hx
          · rename_i hbw
            obtain rfl := Option.some.inj hr
            have hbw' : b = !want := by cases b <;> cases want <;> simp_all
            simp only at hx
            rw [setT_same (by rw [← hbw']; exact ev_bool hb)] at hx
            exact key _ [] [] log ⟨hdo, .inr ⟨⟨j, want, d, hg, hj, .inl ⟨b, hb, hbw⟩⟩, rfl, rfl, rfl⟩⟩ hx (fun x hx => hx) (by simp)
        · rename_i hb
          obtain rfl := Option.some.inj hr
          exact key _ [] [] log ⟨hdo, .inr ⟨⟨j, want, d, hg, hj, .inr hb⟩, rfl, rfl, rfl⟩⟩ hx (fun x hx => hx) (by simp)
        · cases hr

omit hT hS hm in
theorem log_apart {ops : Array Oper} {logF : List (Nat × List Nat × List Nat)} (hlog : logOk ops logF = true) {T W : Nat → List Nat} (hm : ∀ j, j < ops.size → (T j ++ W j).isEmpty = false → (j, T j ++ W j, W j) ∈ logF) {i j : Nat} (hi : i < ops.size) (hj : j < ops.size) (hij : i ≠ j) :
    (∀ r ∈ W i, r ∉ T j ++ W j) ∨ Bef ops i j ∨ Bef ops j i := by
  cases h1 : (W i).isEmpty with
  | true =>
    left
    intro r hr
    rw [List.isEmpty_iff.1 h1] at hr
    simp at hr
  | false =>
    cases h2 : (T j ++ W j).isEmpty with
    | true =>
      left
      intro r _ hr
      rw [List.isEmpty_iff.1 h2] at hr
      simp at hr
    | false =>
      have e1 : (T i ++ W i).isEmpty = false := by
        cases h : (T i ++ W i).isEmpty with
        | false => rfl
        | true =>
          have := List.isEmpty_iff.1 h
          simp at this
          rw [this.2] at h1
          simp at h1
      have := List.all_eq_true.1 hlog _ (hm i hi e1)
      simp only [h1, Bool.false_or] at this
      have := List.all_eq_true.1 this _ (hm j hj h2)
      simp only [Bool.or_eq_true, beq_iff_eq] at this
      rcases this with h | h | h
      · exact absurd h hij
      · left
        intro r hr
        have := List.all_eq_true.1 h r hr
        simpa using this
      · right
        unfold orderedB at h
        rw [Bool.or_eq_true] at h
        exact h.imp (before_bef ops _ _) (before_bef ops _ _)

theorem run_sound {K : Nat} (hcall : CallOk S.P S.E (callOf S (ex S K))) {ans : Ans} : ∀ (c : Code) (k : Nat) (ks : List PVE.Fr) (st : St) (a : Act) (w : World), k ≤ K + 1 → codeOk n c = true → RelX S.E w0 R0 F0 gh n st a w → ex S k F (.run c st ks) = some ans →
    c.wp S.P (afterX S F w0 R0 F0 gh n ks ans k) a w := by
  intro c
  induction c with
  | skip =>
    intro k ks st a w hk hc h hx
    obtain ⟨k', rfl, r, hr, hx⟩ := ex_step hx
    simp only [step, Option.some.injEq] at hr
    subst hr
    exact wp_skip ⟨st, h, k', Nat.lt_succ_self _, hx⟩
  | region id ops d =>
    intro k ks st a w hk hc h hx
    obtain ⟨k', rfl, r, hr, hx⟩ := ex_step hx
    simp only [codeOk, Bool.and_eq_true] at hc
    cases d with
    | false =>
      simp only [step, Option.some.injEq] at hr
      subst hr
      exact wp_region_list (ops_sound hT hS hm hcall _ k' st a w (by omega) hc.1 (fun s a w hr haf => ⟨s, hr, haf.mono (Nat.le_succ _)⟩) h hx)
    | true =>
      simp only [step, Option.some.injEq] at hr
      subst hr
      have hok : drawOk ops = true := by simpa using hc.2
      obtain ⟨Sf, T, W, logF, g1, ⟨j0, g2, g3⟩, g4, g5, g6, g7⟩ := dops_parts (K := K) ops.toList 0 k' [] st (by omega) (fun j => by simp) hc.1 hx
      simp only [Nat.zero_add, Array.length_toList] at g3 g7
      refine draw_sound hT hS hm hcall hok ⟨fun i o ho => g4 i o (Nat.zero_le _) ho, fun i j hi hj hij => log_apart g5 (fun j hj => g7 j (Nat.zero_le _) hj) hi hj hij⟩ (fun a w hr => ⟨_, hr, j0, by omega, g3⟩) (by rw [g1]; exact h)
  | seq x y ihx ihy =>
    intro k ks st a w hk hc h hx
    obtain ⟨k', rfl, r, hr, hx⟩ := ex_step hx
    simp only [step, Option.some.injEq] at hr
    subst hr
    simp only [codeOk, Bool.and_eq_true] at hc
    refine wp_seq (wp_mono (ihx k' _ st a w (by omega) hc.1 h hx) ?_)
    rintro e a w ⟨s, hr, haf⟩
    cases e with
    | normal =>
      obtain ⟨j, hj, hx⟩ := haf
      obtain ⟨j', rfl, r, hr', hx⟩ := ex_step hx
      simp only [step, Option.some.injEq] at hr'
      subst hr'
      refine wp_mono (ihy j' ks s a w (by omega) hc.2 hr hx) ?_
      rintro e a w ⟨s, hr, haf⟩
      exact ⟨s, hr, haf.mono (by omega)⟩
    | exit i =>
      obtain ⟨j, hj, hx⟩ := haf
      obtain ⟨j', rfl, r, hr', hx⟩ := ex_step hx
      simp only [step, Option.some.injEq] at hr'
      subst hr'
      exact ⟨s, hr, j', by omega, hx⟩
    | ret => exact ⟨s, hr, haf⟩
    | _ => exact haf.elim
  | cond c x y ihx ihy =>
    intro k ks st a w hk hc h hx
    obtain ⟨k', rfl, r, hr, hx⟩ := ex_step hx
    simp only [codeOk, Bool.and_eq_true] at hc
    simp only [step] at hr
    split at hr
    case h_2 => cases hr
    rename_i t ht
    obtain rfl := Option.some.inj hr
    have hcv : a.eval c = .bool t := by
      obtain ⟨R, σ, fps, hr⟩ := h
      have := ev_V hr c
      rw [ht] at this
      simp only [V] at this
      exact this.1
    refine wp_cond hcv ?_
    cases t with
    | true =>
      refine wp_mono (ihx k' ks st a w (by omega) hc.1 h (by simpa using hx)) ?_
      rintro e a w ⟨s, hr, haf⟩
      exact ⟨s, hr, haf.mono (by omega)⟩
    | false =>
      refine wp_mono (ihy k' ks st a w (by omega) hc.2 h (by simpa using hx)) ?_
      rintro e a w ⟨s, hr, haf⟩
      exact ⟨s, hr, haf.mono (by omega)⟩
  | block id c ih =>
    intro k ks st a w hk hc h hx
    obtain ⟨k', rfl, r, hr, hx⟩ := ex_step hx
    simp only [step, Option.some.injEq] at hr
    subst hr
    refine wp_block (wp_mono (ih k' _ st a w (by omega) hc h hx) ?_)
    rintro e a w ⟨s, hr, haf⟩
    cases e with
    | normal =>
      obtain ⟨j, hj, hx⟩ := haf
      obtain ⟨j', rfl, r, hr', hx⟩ := ex_step hx
      simp only [step, Option.some.injEq] at hr'
      subst hr'
      exact ⟨s, hr, j', by omega, hx⟩
    | exit i =>
      obtain ⟨j, hj, hx⟩ := haf
      obtain ⟨j', rfl, r, hr', hx⟩ := ex_step hx
      simp only [step] at hr'
      simp only [Exit.inBlock]
      by_cases hi : id = i
      · subst hi
        rw [if_pos rfl] at hr'
        simp only [if_true]
        split at hr'
        · rename_i L hL
          obtain ⟨p, s', h1, h2, h3⟩ := ifP_some.1 hr'
          obtain rfl := Option.some.inj h3
          exact ⟨s', cut_sound hr h1 h2, j', by omega, hx⟩
        · obtain rfl := Option.some.inj hr'
          exact ⟨s, hr, j', by omega, hx⟩
      · rw [if_neg hi] at hr'
        obtain rfl := Option.some.inj hr'
        have hi' : ¬ i = id := fun h => hi h.symm
        simp only [hi', if_false]
        exact ⟨s, hr, j', by omega, hx⟩
    | ret => exact ⟨s, hr, haf⟩
    | _ => exact haf.elim
  | loop c ih =>
    intro k ks st a w hk hc h hx
    obtain ⟨k', rfl, r, hr, hx⟩ := ex_step hx
    obtain ⟨L, p, s, h1, h2, rfl⟩ := enter_some hr
    obtain ⟨k2, rfl, r, hr2, hx⟩ := ex_step hx
    simp only [step, Option.some.injEq] at hr2
    subst hr2
    refine wp_loop_ghost (fun j a w => ∃ s, RelX S.E w0 R0 F0 gh n s a w ∧ ex S j F (.run c s (.loop c :: ks)) = some ans ∧ j ≤ k2) k2 ⟨s, cut_sound h h1 h2, hx, Nat.le_refl _⟩ ?_
    rintro j a w ⟨s, hr, hx, hj⟩
    refine wp_mono (ih j _ s a w (by omega) hc hr hx) ?_
    rintro e a w ⟨s, hr, haf⟩
    cases e with
    | normal =>
      obtain ⟨i, hi, hx⟩ := haf
      obtain ⟨i', rfl, r, hr', hx⟩ := ex_step hx
      obtain ⟨L, p, s', h1, h2, rfl⟩ := enter_some hr'
      obtain ⟨i2, rfl, r, hr2, hx⟩ := ex_step hx
      simp only [step, Option.some.injEq] at hr2
      subst hr2
      exact ⟨i2, by omega, s', cut_sound hr h1 h2, hx, by omega⟩
    | exit i =>
      obtain ⟨j', hj', hx⟩ := haf
      obtain ⟨j2, rfl, r, hr', hx⟩ := ex_step hx
      simp only [step, Option.some.injEq] at hr'
      subst hr'
      exact ⟨s, hr, j2, by omega, hx⟩
    | ret => exact ⟨s, hr, haf⟩
    | _ => exact haf.elim
  | exit id =>
    intro k ks st a w hk hc h hx
    obtain ⟨k', rfl, r, hr, hx⟩ := ex_step hx
    simp only [step, Option.some.injEq] at hr
    subst hr
    exact wp_exit ⟨st, h, k', Nat.lt_succ_self _, hx⟩
  | ret =>
    intro k ks st a w hk hc h hx
    obtain ⟨k', rfl, r, hr, hx⟩ := ex_step hx
    simp only [step] at hr
    obtain ⟨p, b, h1, h2, rfl⟩ := finish_some hr
    simp only at hx
    subst hx
    exact wp_ret ⟨st, h, p, h1, h2⟩
  | _ =>
    intro k ks st a w hk hc h hx
    obtain ⟨k', rfl, r, hr, hx⟩ := ex_step hx
    simp only [step] at hr
    cases hr
end sound
end
end Go.Proofs.YtanbccpabgcmaaaGreatDoor.PVE
