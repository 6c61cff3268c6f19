/- The PV engine, part 25: the machine is sound: a contract out of its run. -/
import Derived.Test.YtmanllfmgghadaaGreatDoorEF
import Derived.KernelRfl
import Derived.ChangeArms
import Derived.DataReads
import Derived.Below
set_option linter.unusedVariables false
set_option linter.unusedSimpArgs false
set_option linter.unusedSectionVars false
namespace Go.Proofs.YtmanllfmgghadaaGreatDoor.PVE
open PV
section
variable {P : Program} {E : Env} {w0 : World} {R0 : Nat → Prop} {F0 : List Nat} {gh : Nat → Value} {n : Nat} {Fr : Nat → Prop} {R : Nat → Prop} {σ : Nat → Option Hd} {fps : Nat → List Nat} {st : St} {a : Act} {w : World} [Dm]
mutual
theorem V.ren {σ' : Nat → Option Hd} {ρ : Nat → Nat} : ∀ (pv : PV) (v : Value), (∀ r ∈ hands pv, σ' (ρ r) = σ r) → pv.okr → V w R σ pv v [] → V w R σ' (pv.ren ρ) v []
  | .own r, v, hs, _, h => by simp only [PV.ren, V] at h ⊢; rw [hs r (by simp [hands])]; exact h
  | .addr r i o, v, hs, _, h => by simp only [PV.ren, V] at h ⊢; rw [hs r (by simp [hands])]; exact h
  | .vw r i o, v, hs, _, h => by simp only [PV.ren, V] at h ⊢; rw [hs r (by simp [hands])]; exact h
  | .agg cs, v, hs, hk, h => by
    simp only [PV.ren, V] at h ⊢
    obtain ⟨us, h1, h2⟩ := h
    exact ⟨us, h1, Cs.ren cs us (by simpa [hands] using hs) hk h2⟩
  | .fn f cs, v, hs, hk, h => by
    simp only [PV.ren, V] at h ⊢
    obtain ⟨us, h1, h2, h3⟩ := h
    exact ⟨us, h1, h2, Ts.ren cs us (by simpa [hands] using hs) hk h3⟩
  | .tup cs, v, hs, hk, h => by
    simp only [PV.ren, V] at h ⊢
    obtain ⟨us, h1, h2⟩ := h
    exact ⟨us, h1, Ts.ren cs us (by simpa [hands] using hs) hk h2⟩
  | .undef, _, _, _, h | .void, _, _, _, h | .bool _, _, _, _, h | .int _ _, _, _, _, h | .str _, _, _, _, h | .lit _, _, _, _, h | .nilS, _, _, _, h | .ifc, _, _, _, h | .any, _, _, _, h => by
    simp only [PV.ren, V] at h ⊢ <;> exact h
  | .sl es, v, _, hk, h => V.free (.sl es) v [] hk h
  | .slo sz es, v, _, hk, h => V.free (.slo sz es) v [] hk h
  | .pro cs, v, _, hk, h => V.free (.pro cs) v [] hk h
  | .pto cs, v, _, hk, h => V.free (.pto cs) v [] hk h
  | .mp it es, v, _, hk, h => V.free (.mp it es) v [] hk h
theorem Cs.ren {σ' : Nat → Option Hd} {ρ : Nat → Nat} : ∀ (cs : List PV) (us : List Value), (∀ r ∈ handsL cs, σ' (ρ r) = σ r) → PV.okrL cs → Cs w R σ cs us [] → Cs w R σ' (PV.renL ρ cs) us []
  | [], us, _, _, h => by simpa only [PV.renL, Cs] using h
  | c :: cs, us, hs, hk, h => by
    simp only [PV.renL, Cs] at h ⊢
    obtain ⟨u, us', f1, f2, rfl, h0, h1, h2, h3⟩ := h
    obtain ⟨rfl, rfl⟩ : f1 = [] ∧ f2 = [] := by simpa using h3.symm
    exact ⟨u, us', [], [], rfl, h0, V.ren c u (fun r hr => hs r (by simp [handsL, hr])) hk.1 h1, Cs.ren cs us' (fun r hr => hs r (by simp [handsL, hr])) hk.2 h2, rfl⟩
theorem Ts.ren {σ' : Nat → Option Hd} {ρ : Nat → Nat} : ∀ (cs : List PV) (us : List Value), (∀ r ∈ handsL cs, σ' (ρ r) = σ r) → PV.okrL cs → Ts w R σ cs us [] → Ts w R σ' (PV.renL ρ cs) us []
  | [], us, _, _, h => by simpa only [PV.renL, Ts] using h
  | c :: cs, us, hs, hk, h => by
    simp only [PV.renL, Ts] at h ⊢
    obtain ⟨u, us', f1, f2, rfl, h1, h2, h3⟩ := h
    obtain ⟨rfl, rfl⟩ : f1 = [] ∧ f2 = [] := by simpa using h3.symm
    exact ⟨u, us', [], [], rfl, V.ren c u (fun r hr => hs r (by simp [handsL, hr])) hk.1 h1, Ts.ren cs us' (fun r hr => hs r (by simp [handsL, hr])) hk.2 h2, rfl⟩
end
theorem idx_get {r : Nat} : ∀ {hs : List Nat}, r ∈ hs → hs[idx r hs]? = some r
  | q :: hs, h => by
    by_cases hq : q = r
    · simp [idx, hq]
    · simp only [idx, hq, if_false, List.getElem?_cons_succ]
      exact idx_get ((List.mem_cons.1 h).resolve_left fun h => hq h.symm)
theorem addH_mem {r q : Nat} : ∀ {hs : List Nat}, r ∈ addH q hs ↔ r = q ∨ r ∈ hs
  | [] => by simp [addH]
  | x :: hs => by
    simp only [addH]
    split
    · rename_i hx
      simp only [List.mem_cons]
      constructor
      · exact .inr
      · rintro (h | h)
        · exact .inl (h.trans hx.symm)
        · exact h
    · simp only [List.mem_cons, addH_mem (hs := hs)]
      constructor
      · rintro (h | h | h) <;> simp [h]
      · rintro (h | h | h) <;> simp [h]
theorem dedup_mem : ∀ {rs acc : List Nat} {r : Nat}, r ∈ rs ∨ r ∈ acc → r ∈ dedup rs acc
  | [], acc, r, h => by simpa [dedup] using h
  | q :: rs, acc, r, h => by
    simp only [dedup]
    refine dedup_mem ?_
    rcases h with h | h
    · rcases List.mem_cons.1 h with rfl | h
      · exact .inr (addH_mem.2 (.inl rfl))
      · exact .inl h
    · exact .inr (addH_mem.2 (.inr h))
theorem pairs_at {hs : List Nat} (s : St) : ∀ (L : List Nat) (t : Nat), ((pairsOf hs s L).lookup t).getD .undef = .undef ∨ (t ∈ L ∧ ((pairsOf hs s L).lookup t).getD .undef = (s.temps t).ren (fun r => idx r hs))
  | [], t => .inl rfl
  | x :: L, t => by
    simp only [pairsOf, List.lookup_cons]
    by_cases hx : t = x
    · subst hx
      right
      simp
    · have : (t == x) = false := by simpa using hx
      rw [this]
      rcases pairs_at s L t with h | ⟨h1, h2⟩
      · exact .inl h
      · exact .inr ⟨by simp [h1], h2⟩
theorem okrL_mem {c : PV} : ∀ {cs : List PV}, PV.okrL cs → c ∈ cs → c.okr
  | x :: cs, h, hc => by
    rcases List.mem_cons.1 hc with rfl | hc
    · exact h.1
    · exact okrL_mem h.2 hc
theorem freeL_mem {c : PV} : ∀ {cs : List PV}, PV.freeL cs → c ∈ cs → c.free
  | x :: cs, h, hc => by
    rcases List.mem_cons.1 hc with rfl | hc
    · exact h.1
    · exact freeL_mem h.2 hc
theorem foldAll_sound (h : Rel w0 R0 F0 gh E.G n Fr R σ fps st a w) : ∀ (hs : List Nat) (pvs : List PV) (l : List Nat), foldAll st.store hs = some (pvs, l) →
    ∃ fs : List (List Nat), fs.length = hs.length ∧ pvs.length = hs.length ∧ (∀ (i r : Nat) (pv : PV), hs[i]? = some r → pvs[i]? = some pv → ∃ k f, fs[i]? = some f ∧ σ r = some k ∧ V w R σ pv k.hdr f ∧ RootTy k pv) ∧ fs.flatten.Perm (l.flatMap fps)
  | [], pvs, l, he => by
    simp only [foldAll, Option.some.injEq, Prod.mk.injEq] at he
    obtain ⟨rfl, rfl⟩ := he
    exact ⟨[], rfl, rfl, by simp, by simp⟩
  | r :: hs, pvs, l, he => by
    simp only [foldAll] at he
    split at he
    case h_2 => cases he
    rename_i pv l1 pvs' l2 h1 h2
    simp only [Option.some.injEq, Prod.mk.injEq] at he
    obtain ⟨rfl, rfl⟩ := he
    obtain ⟨k, f, k1, k2, k3, k4⟩ := fold_sound h 4 r _ _ h1
    obtain ⟨fs, i1, i2, i3, i4⟩ := foldAll_sound h hs _ _ h2
    refine ⟨f :: fs, by simp [i1], by simp [i2], fun i q p hq hp => ?_, by rw [List.flatten_cons, List.flatMap_append]; exact k4.append i4⟩
    cases i with
    | zero =>
      simp at hq hp
      subst hq hp
      exact ⟨k, f, rfl, k1, k2, k3⟩
    | succ i => simpa using i3 i q p (by simpa using hq) (by simpa using hp)
theorem flat_mem {b : Nat} : ∀ {fs : List (List Nat)} {i : Nat}, b ∈ (fs[i]?).getD [] → b ∈ fs.flatten
  | [], i, h => by simp at h
  | f :: fs, 0, h => by simp at h; simp [h]
  | f :: fs, i + 1, h => by
    rw [List.getElem?_cons_succ] at h
    rw [List.flatten_cons]
    exact List.mem_append_right _ (flat_mem h)
theorem flat_nodup : ∀ {fs : List (List Nat)}, fs.flatten.Nodup → (∀ i : Nat, ((fs[i]?).getD []).Nodup) ∧ ∀ i j : Nat, i ≠ j → ∀ b ∈ (fs[i]?).getD [], b ∉ (fs[j]?).getD []
  | [], _ => ⟨by simp, by simp⟩
  | f :: fs, h => by
    rw [List.flatten_cons, List.nodup_append] at h
    obtain ⟨h1, h2, h3⟩ := h
    obtain ⟨i1, i2⟩ := flat_nodup h2
    refine ⟨fun i => ?_, fun i j hij b hb hb' => ?_⟩
    · cases i with
      | zero => simpa using h1
      | succ i => simpa using i1 i
    · cases i with
      | zero =>
        cases j with
        | zero => exact hij rfl
        | succ j => exact h3 b (by simpa using hb) b (flat_mem (i := j) (by simpa using hb')) rfl
      | succ i =>
        cases j with
        | zero => exact h3 b (by simpa using hb') b (flat_mem (i := i) (by simpa using hb)) rfl
        | succ j => exact i2 i j (by omega) b (by simpa using hb) (by simpa using hb')
theorem cut_sound (h : RelX E w0 R0 F0 gh n st a w) {L : List Nat} {p : Prop} {s : St} (he : cutS L st = some (p, s)) (hp : p) : RelX E w0 R0 F0 gh n s a w := by
  obtain ⟨R, σ, fps, h⟩ := h
  unfold cutS at he
  split at he
  · cases he
  rename_i pvs l hfo
  simp only [Option.some.injEq, Prod.mk.injEq] at he
  obtain ⟨rfl, rfl⟩ := he
  obtain ⟨hl, hfree, hokr⟩ := hp
  obtain ⟨fs, i1, i2, i3, i4⟩ := foldAll_sound h _ _ _ hfo
  generalize hhs : dedup (handsL (L.map st.temps)) [] = hs at *
  have hnd := flat_nodup (i4.nodup_iff.2 (perm_nodup h hl))
  have hin : ∀ i, ∀ b ∈ (fs[i]?).getD [], ∃ x, b ∈ fps x := fun i b hb => by
    obtain ⟨x, _, hx⟩ := List.mem_flatMap.1 (i4.mem_iff.1 (flat_mem hb)); exact ⟨x, hx⟩
  refine ⟨R, fun i => (hs[i]?).bind σ, fun i => (fs[i]?).getD [], ⟨fun t => ?_, fun r x hx => ?_, fun r hx => ?_, hnd.1, hnd.2, fun r b hb => ?_, h.Rb, h.R0R, h.keep, h.sz, h.tape, h.os, h.out, fun r hr => ?_, h.gl, h.nt, h.df⟩⟩
  · have htm := h.tm t
    show V w R _ (((pairsOf hs st L).lookup t).getD .undef) _ []
    rcases pairs_at (hs := hs) st L t with hu | ⟨h1, h2⟩
    · rw [hu]; simp [V]
    · rw [h2]
      refine V.ren _ _ (fun r hr => ?_) (okrL_mem hokr (List.mem_map_of_mem h1)) htm
      have : r ∈ hs := by rw [← hhs]; exact dedup_mem (.inl (handsL_mem (List.mem_map_of_mem h1) r hr))
      rw [idx_get this]
      rfl
  · simp only [mkSt] at hx
    cases hpv : pvs[r]? with
    | none => rw [hpv] at hx; cases hx
    | some pv =>
      rw [hpv] at hx
      simp only [Option.map_some, Option.some.injEq] at hx
      subst hx
      have hlt : r < hs.length := by rw [← i2]; exact (List.getElem?_eq_some_iff.1 hpv).1
      have hr : hs[r]? = some hs[r] := List.getElem?_eq_getElem hlt
      obtain ⟨k, f, k1, k2, k3, k4⟩ := i3 r _ pv hr hpv
      refine ⟨k, by rw [hr]; exact k2, ?_, k4⟩
      simp only [k1, Option.getD_some]
      exact V.free _ _ _ (freeL_mem hfree (List.mem_of_getElem? hpv)) k3
  · simp only [mkSt] at hx
    have : pvs.length ≤ r := by
      refine Nat.le_of_not_lt fun hlt => ?_
      rw [List.getElem?_eq_getElem hlt] at hx
      cases hx
    try simp only
    rw [List.getElem?_eq_none (by omega)]
    rfl
  · obtain ⟨x, hx⟩ := hin r b hb
    exact h.fb x b hx
  · have hr' : pvs.length ≤ r := hr
    refine ⟨by rw [List.getElem?_eq_none (by omega)]; rfl, ?_⟩
    simp [mkSt, List.getElem?_eq_none hr']
theorem dstOk_of {n : Nat} {d : Option Nat} (h : dstB n d = true) : dstOk n d := by
  cases d with
  | none => trivial
  | some d => simpa [dstB, dstOk] using h
variable {S : Sys} {F : Fx}
theorem ex_step {k : Nat} {c : Conf} {ans : Ans} (h : ex S k F c = some ans) : ∃ k', k = k' + 1 ∧ ∃ r, step (callOf S (ex S k')) S.E F c = some r ∧ (match r with
    | .inl c' => exA (ex S k' F) c' = some ans
    | .inr b => b = ans) := by
  cases k with
  | zero => simp [ex] at h
  | succ k' =>
    refine ⟨k', rfl, ?_⟩
    rw [ex] at h
    split at h
    · cases h
    · rename_i c' hc; exact ⟨_, hc, h⟩
    · rename_i b hc; exact ⟨_, hc, Option.some.inj h⟩
def after (S : Sys) (F : Fx) (ks : List PVE.Fr) (ans : Ans) (k : Nat) (e : Exit) (s : St) : Prop := match e with
  | .normal => ∃ j, j < k ∧ ex S j F (.back s ks) = some ans
  | .exit i => ∃ j, j < k ∧ ex S j F (.exit i s ks) = some ans
  | .ret => ∃ p, finR S.E F s = some (p, ans) ∧ p
  | _ => False
theorem after.mono {ks : List PVE.Fr} {ans : Ans} {k k' : Nat} (hk : k ≤ k') {e : Exit} {s : St} (h : after S F ks ans k e s) : after S F ks ans k' e s := by
  cases e <;> simp only [after] at h ⊢
  · obtain ⟨j, h1, h2⟩ := h; exact ⟨j, by omega, h2⟩
  · obtain ⟨j, h1, h2⟩ := h; exact ⟨j, by omega, h2⟩
  · exact h
def afterX (S : Sys) (F : Fx) (w0 : World) (R0 : Nat → Prop) (F0 : List Nat) (gh : Nat → Value) (n : Nat) (ks : List PVE.Fr) (ans : Ans) (k : Nat) (e : Exit) (a : Act) (w : World) : Prop := ∃ s, RelX S.E w0 R0 F0 gh n s a w ∧ after S F ks ans k e s
theorem finish_some {st : St} {r : Conf ⊕ Ans} (h : finish E F st = some r) : ∃ p b, finR E F st = some (p, b) ∧ p ∧ r = .inr b := by
  obtain ⟨p, b, h1, h2, h3⟩ := ifP_some.1 h
  exact ⟨p, b, h1, h2, (Option.some.inj h3).symm⟩
theorem enter_some {c : Code} {st : St} {ks : List PVE.Fr} {r : Conf ⊕ Ans} (h : enter F c st ks = some r) : ∃ L p s, cutS L st = some (p, s) ∧ p ∧ r = .inl (.head c s ks) := by
  unfold enter at h
  split at h
  case h_2 => cases h
  rename_i L hL
  obtain ⟨p, s, h1, h2, h3⟩ := ifP_some.1 h
  exact ⟨L, p, s, h1, h2, (Option.some.inj h3).symm⟩
section sound
variable (hT : TyOk S.P S.E.T) (hS : SOk S.P S.E.S) (hm : S.P.follows .mixedOrders = true)
include hT hS hm
theorem ops_sound {K : Nat} (hcall : CallOk S.P S.E (callOf S (ex S K))) {ops : Array Oper} {Qx : Exit → Act → World → Prop} {ks : List PVE.Fr} {ans : Ans} :
    ∀ (l : List Oper) (k : Nat) (st : St) (a : Act) (w : World), k ≤ K + 1 → l.all (fun o => dstB n o.dst) = true → (∀ s a w, RelX S.E w0 R0 F0 gh n s a w → after S F ks ans k .normal s → Qx .normal a w) →
      RelX S.E w0 R0 F0 gh n st a w → ex S k F (.ops ops l st ks) = some ans → wpList S.P ops Qx l a w
  | [], k, st, a, w, hk, _, hQ, h, hx => by
    obtain ⟨k', rfl, r, hr, hx⟩ := ex_step hx
    simp only [step, Option.some.injEq] at hr
    subst hr
    exact hQ st a w h ⟨k', Nat.lt_succ_self _, hx⟩
  | o :: l, k, st, a, w, hk, hd, hQ, h, hx => by
    obtain ⟨k', rfl, r, hr, hx⟩ := ex_step hx
    simp only [List.all_cons, Bool.and_eq_true] at hd
    have hdo := dstOk_of hd.1
    have hc' : CallOk S.P S.E (callOf S (ex S k')) := fun f xs b hb => hcall f xs b (call_le (show k' ≤ K by omega) _ _ _ hb)
    have rest : ∀ st' a' w', RelX S.E w0 R0 F0 gh n st' a' w' → ex S k' F (.ops ops l st' ks) = some ans → wpList S.P ops Qx l a' w' := fun st' a' w' h' hx' =>
      ops_sound hcall l k' st' a' w' (by omega) hd.2 (fun s a w hr haf => hQ s a w hr (haf.mono (Nat.le_succ _))) h' hx'
    have run : ∀ r, runO (callOf S (ex S k')) S.E o st (fun s => .ops ops l s ks) = some r → (match r with
        | .inl c' => exA (ex S k' F) c' = some ans
        | .inr b => b = ans) → o.wp S.P a w (wpList S.P ops Qx l) Qx := by
      intro r hr hx
      obtain ⟨p, e, h1, h2, h3⟩ := ifP_some.1 hr
      obtain rfl := Option.some.inj h3
      refine opR_sound hT hS hc' h hdo h1 h2 (fun r hr _ => hr) fun w' u hr' => rest _ _ _ (hr'.of (fun r hr => ?_) rfl rfl) hx
      have := opR_nx h1
      have hr2 : e.nx ≤ r := hr
      exact ⟨Nat.le_trans this hr2, by omega⟩
    unfold wpList
    simp only [step] at hr
    cases hg : o.guard with
    | none =>
      rw [hg] at hr
      rw [if_pos (by simp [Region.wanted, hg])]
      simp only at hr
      split at hr
      · rename_i es hes
        obtain rfl := Option.some.inj hr
        simp only [exA] at hx
        have hx' := (ambA_some.1 hx).2
        exact .inl (next_sound h hdo hes fun e he w' u hr' => rest _ _ _ hr' (hx' _ (List.mem_map_of_mem he)))
      · exact .inl (run r hr hx)
    | some g =>
      obtain ⟨j, want⟩ := g
      rw [hg] at hr
      simp only at hr
      cases hj : dstAt ops j with
      | none => rw [hj] at hr; cases hr
      | some d =>
        rw [hj] at hr
        simp only at hr
        split at hr
        · rename_i b hb
          have hy := yield_bool h hj hb
          split at hr
          · rename_i hbw
            rw [if_pos (by simp [Region.wanted, hg, hy, hbw])]
            rw [setT_same (by rw [← hbw]; exact ev_bool hb)] at hr
            exact .inl (run r hr hx)
          · rename_i hbw
            rw [if_neg (by simp [Region.wanted, hg, hy, hbw])]
            obtain rfl := Option.some.inj hr
            have hbw' : b = !want := by cases b <;> cases want <;> simp_all
            simp only at hx
            rw [setT_same (by rw [← hbw']; exact ev_bool hb)] at hx
            exact rest (st.skip o.dst) _ _ (h.skip hdo) hx
        · rename_i hb
          have hy := yield_void h hj hb
          rw [if_neg (by simp [Region.wanted, hg, hy])]
          obtain rfl := Option.some.inj hr
          exact rest (st.skip o.dst) _ _ (h.skip hdo) hx
        · cases hr
omit hT hS hm in
theorem dops_parts {K : Nat} {ops : Array Oper} {ks : List PVE.Fr} {ans : Ans} :
    ∀ (l : List Oper) (i k : Nat) (log : List (Nat × List Nat × List Nat)) (st : St), k ≤ K + 1 → (∀ j, l[j]? = ops[i + j]?) → l.all (fun o => dstB n o.dst) = true → ex S k F (.dops ops i l log st ks) = some ans →
      ∃ (Sf : Nat → St) (T W : Nat → List Nat) (logF : List (Nat × List Nat × List Nat)), Sf i = st ∧ (∃ j, j < k ∧ ex S j F (.back (Sf (i + l.length)) ks) = some ans) ∧ (∀ j o, i ≤ j → ops[j]? = some o → StepD (callOf S (ex S K)) S.E n ops o (Sf j) (Sf (j + 1)) (T j) (W j)) ∧
        logOk ops logF = true ∧ (∀ x ∈ log, x ∈ logF) ∧ ∀ j, i ≤ j → j < i + l.length → (T j ++ W j).isEmpty = false → (j, T j ++ W j, W j) ∈ logF
  | [], i, k, log, st, hk, hl, _, hx => by
    obtain ⟨k', rfl, r, hr, hx⟩ := ex_step hx
    simp only [step] at hr
    split at hr
    case isFalse => cases hr
    rename_i hlog
    obtain rfl := Option.some.inj hr
    refine ⟨fun _ => st, fun _ => [], fun _ => [], log, rfl, ⟨k', Nat.lt_succ_self _, hx⟩, fun j o hj ho => ?_, hlog, fun x hx => hx, fun j h1 h2 => by simp at h2; omega⟩
    have h1 := hl (j - i)
    rw [show i + (j - i) = j by omega, ho] at h1
    simp at h1
  | o :: l, i, k, log, st, hk, hl, hd, hx => by
    obtain ⟨k', rfl, r, hr, hx⟩ := ex_step hx
    simp only [List.all_cons, Bool.and_eq_true] at hd
    have hdo := dstOk_of hd.1
    have hi : ops[i]? = some o := by simpa using (hl 0).symm
    have hl' : ∀ j, l[j]? = ops[i + 1 + j]? := fun j => by have := hl (j + 1); rw [List.getElem?_cons_succ] at this; rw [this]; congr 1; omega
    -- what the first step is, and what follows
    have key : ∀ (s' : St) (T0 W0 : List Nat) (log' : List (Nat × List Nat × List Nat)), StepD (callOf S (ex S K)) S.E n ops o st s' T0 W0 → ex S k' F (.dops ops (i + 1) l log' s' ks) = some ans → (∀ x ∈ log, x ∈ log') → ((T0 ++ W0).isEmpty = false → (i, T0 ++ W0, W0) ∈ log') →
        ∃ (Sf : Nat → St) (T W : Nat → List Nat) (logF : List (Nat × List Nat × List Nat)), Sf i = st ∧ (∃ j, j < k' + 1 ∧ ex S j F (.back (Sf (i + (o :: l).length)) ks) = some ans) ∧ (∀ j o, i ≤ j → ops[j]? = some o → StepD (callOf S (ex S K)) S.E n ops o (Sf j) (Sf (j + 1)) (T j) (W j)) ∧
        logOk ops logF = true ∧ (∀ x ∈ log, x ∈ logF) ∧ ∀ j, i ≤ j → j < i + (o :: l).length → (T j ++ W j).isEmpty = false → (j, T j ++ W j, W j) ∈ logF := by
      intro s' T0 W0 log' hst hx' hlog hlogi
      obtain ⟨Sf, T, W, logF, g1, ⟨j0, g2, g3⟩, g4, g5, g6, g7⟩ := dops_parts (K := K) l (i + 1) k' log' s' (by omega) hl' hd.2 hx'
      refine ⟨fun j => if j = i then st else Sf j, fun j => if j = i then T0 else T j, fun j => if j = i then W0 else W j, logF, by simp, ⟨j0, by omega, ?_⟩, fun j o' hj ho => ?_, g5, fun x hx => g6 x (hlog x hx), fun j h1 h2 h3 => ?_⟩
      · have : ¬ i + (o :: l).length = i := by simp
        simp only [this, if_false]
        rw [show i + (o :: l).length = i + 1 + l.length by simp; omega]
        exact g3
      · by_cases hji : j = i
        · subst hji
          rw [hi] at ho
          obtain rfl := Option.some.inj ho
          have : ¬ j + 1 = j := by omega
          simp only [this, if_true, if_false, g1]
          exact hst
        · have : ¬ j + 1 = i := by omega
          simp only [hji, this, if_false]
          exact g4 j o' (by omega) ho
      · by_cases hji : j = i
        · subst hji
          simp only [if_true] at h3 ⊢
          exact g6 _ (hlogi h3)
        · simp only [hji, if_false] at h3 ⊢
          exact g7 j (by omega) (by simp at h2; omega) h3
    have hup : Sub (callOf S (ex S k')) (callOf S (ex S K)) := call_le (show k' ≤ K by omega)
    have run : ∀ r, (o.guard = none ∨ ∃ g want d, o.guard = some (g, want) ∧ dstAt ops g = some d ∧ ev S.E st (.tmp d) = .bool want) → runD (callOf S (ex S k')) S.E o i log st (fun log s => .dops ops (i + 1) l log s ks) = some r → (match r with
        | .inl c' => exA (ex S k' F) c' = some ans
        | .inr b => b = ans) → ∃ (Sf : Nat → St) (T W : Nat → List Nat) (logF : List (Nat × List Nat × List Nat)), Sf i = st ∧ (∃ j, j < k' + 1 ∧ ex S j F (.back (Sf (i + (o :: l).length)) ks) = some ans) ∧ (∀ j o, i ≤ j → ops[j]? = some o → StepD (callOf S (ex S K)) S.E n ops o (Sf j) (Sf (j + 1)) (T j) (W j)) ∧
        logOk ops logF = true ∧ (∀ x ∈ log, x ∈ logF) ∧ ∀ j, i ≤ j → j < i + (o :: l).length → (T j ++ W j).isEmpty = false → (j, T j ++ W j, W j) ∈ logF := by
      intro r hgu hr hx
      obtain ⟨p, e, h1, h2, h3⟩ := ifP_some.1 hr
      obtain rfl := Option.some.inj h3
      refine key _ (touchOp S.E st o.op) (wTok (softW S.E st o.op) e.W) _ ⟨hdo, .inl ⟨hgu, p, e, opR_mono hup h1, h2, rfl, rfl, rfl⟩⟩ hx (fun x hx => ?_) (fun hne => ?_)
      · unfold addLog
        split
        · exact hx
        · exact List.mem_cons_of_mem _ hx
      · unfold addLog
        rw [hne]
        simp
    simp only [step] at hr
    cases hg : o.guard with
    | none =>
      rw [hg] at hr
      exact run r (.inl hg) hr hx
    | some g =>
      obtain ⟨j, want⟩ := g
      rw [hg] at hr
      simp only at hr
      cases hj : dstAt ops j with
      | none => rw [hj] at hr; cases hr
      | some d =>
        rw [hj] at hr
        simp only at hr
        split at hr
        · rename_i b hb
          split at hr
          · rename_i hbw
            rw [setT_same (by rw [← hbw]; exact ev_bool hb)] at hr
            exact run r (.inr ⟨j, want, d, hg, hj, by rw [hb, hbw]⟩) hr hx
          · rename_i hbw
            obtain rfl := Option.some.inj hr
            have hbw' : b = !want := by cases b <;> cases want <;> simp_all
            simp only at hx
            rw [setT_same (by rw [← hbw']; exact ev_bool hb)] at hx
            exact key _ [] [] log ⟨hdo, .inr ⟨⟨j, want, d, hg, hj, .inl ⟨b, hb, hbw⟩⟩, rfl, rfl, rfl⟩⟩ hx (fun x hx => hx) (by simp)
        · rename_i hb
          obtain rfl := Option.some.inj hr
          exact key _ [] [] log ⟨hdo, .inr ⟨⟨j, want, d, hg, hj, .inr hb⟩, rfl, rfl, rfl⟩⟩ hx (fun x hx => hx) (by simp)
        · cases hr
omit hT hS hm in
theorem log_apart {ops : Array Oper} {logF : List (Nat × List Nat × List Nat)} (hlog : logOk ops logF = true) {T W : Nat → List Nat} (hm : ∀ j, j < ops.size → (T j ++ W j).isEmpty = false → (j, T j ++ W j, W j) ∈ logF) {i j : Nat} (hi : i < ops.size) (hj : j < ops.size) (hij : i ≠ j) :
    (∀ r ∈ W i, r ∉ T j ++ W j) ∨ Bef ops i j ∨ Bef ops j i := by
  cases h1 : (W i).isEmpty with
  | true =>
    left
    intro r hr
    rw [List.isEmpty_iff.1 h1] at hr
    simp at hr
  | false =>
    cases h2 : (T j ++ W j).isEmpty with
    | true =>
      left
      intro r _ hr
      rw [List.isEmpty_iff.1 h2] at hr
      simp at hr
    | false =>
      have e1 : (T i ++ W i).isEmpty = false := by
        cases h : (T i ++ W i).isEmpty with
        | false => rfl
        | true =>
          have := List.isEmpty_iff.1 h
          simp at this
          rw [this.2] at h1
          simp at h1
      have := List.all_eq_true.1 hlog _ (hm i hi e1)
      simp only [h1, Bool.false_or] at this
      have := List.all_eq_true.1 this _ (hm j hj h2)
      simp only [Bool.or_eq_true, beq_iff_eq] at this
      rcases this with h | h | h
      · exact absurd h hij
      · left
        intro r hr
        have := List.all_eq_true.1 h r hr
        simpa using this
      · right
        unfold orderedB at h
        rw [Bool.or_eq_true] at h
        exact h.imp (before_bef ops _ _) (before_bef ops _ _)
theorem run_sound {K : Nat} (hcall : CallOk S.P S.E (callOf S (ex S K))) {ans : Ans} : ∀ (c : Code) (k : Nat) (ks : List PVE.Fr) (st : St) (a : Act) (w : World), k ≤ K + 1 → codeOk n c = true → RelX S.E w0 R0 F0 gh n st a w → ex S k F (.run c st ks) = some ans →
    c.wp S.P (afterX S F w0 R0 F0 gh n ks ans k) a w := by
  intro c
  induction c with
  | skip =>
    intro k ks st a w hk hc h hx
    obtain ⟨k', rfl, r, hr, hx⟩ := ex_step hx
    simp only [step, Option.some.injEq] at hr
    subst hr
    exact wp_skip ⟨st, h, k', Nat.lt_succ_self _, hx⟩
  | region id ops d =>
    intro k ks st a w hk hc h hx
    obtain ⟨k', rfl, r, hr, hx⟩ := ex_step hx
    simp only [codeOk, Bool.and_eq_true] at hc
    cases d with
    | false =>
      simp only [step, Option.some.injEq] at hr
      subst hr
      exact wp_region_list (ops_sound hT hS hm hcall _ k' st a w (by omega) hc.1 (fun s a w hr haf => ⟨s, hr, haf.mono (Nat.le_succ _)⟩) h hx)
    | true =>
      simp only [step, Option.some.injEq] at hr
      subst hr
      have hok : drawOk ops = true := by simpa using hc.2
      obtain ⟨Sf, T, W, logF, g1, ⟨j0, g2, g3⟩, g4, g5, g6, g7⟩ := dops_parts (K := K) ops.toList 0 k' [] st (by omega) (fun j => by simp) hc.1 hx
      simp only [Nat.zero_add, Array.length_toList] at g3 g7
      refine draw_sound hT hS hm hcall hok ⟨fun i o ho => g4 i o (Nat.zero_le _) ho, fun i j hi hj hij => log_apart g5 (fun j hj => g7 j (Nat.zero_le _) hj) hi hj hij⟩ (fun a w hr => ⟨_, hr, j0, by omega, g3⟩) (by rw [g1]; exact h)
  | seq x y ihx ihy =>
    intro k ks st a w hk hc h hx
    obtain ⟨k', rfl, r, hr, hx⟩ := ex_step hx
    simp only [step, Option.some.injEq] at hr
    subst hr
    simp only [codeOk, Bool.and_eq_true] at hc
    refine wp_seq (wp_mono (ihx k' _ st a w (by omega) hc.1 h hx) ?_)
    rintro e a w ⟨s, hr, haf⟩
    cases e with
    | normal =>
      obtain ⟨j, hj, hx⟩ := haf
      obtain ⟨j', rfl, r, hr', hx⟩ := ex_step hx
      simp only [step, Option.some.injEq] at hr'
      subst hr'
      refine wp_mono (ihy j' ks s a w (by omega) hc.2 hr hx) ?_
      rintro e a w ⟨s, hr, haf⟩
      exact ⟨s, hr, haf.mono (by omega)⟩
    | exit i =>
      obtain ⟨j, hj, hx⟩ := haf
      obtain ⟨j', rfl, r, hr', hx⟩ := ex_step hx
      simp only [step, Option.some.injEq] at hr'
      subst hr'
      exact ⟨s, hr, j', by omega, hx⟩
    | ret => exact ⟨s, hr, haf⟩
    | _ => exact haf.elim
  | cond c x y ihx ihy =>
    intro k ks st a w hk hc h hx
    obtain ⟨k', rfl, r, hr, hx⟩ := ex_step hx
    simp only [codeOk, Bool.and_eq_true] at hc
    simp only [step] at hr
    split at hr
    case h_2 => cases hr
    rename_i t ht
    obtain rfl := Option.some.inj hr
    have hcv : a.eval c = .bool t := by
      obtain ⟨R, σ, fps, hr⟩ := h
      have := ev_V hr c
      rw [ht] at this
      simp only [V] at this
      exact this.1
    refine wp_cond hcv ?_
    cases t with
    | true =>
      refine wp_mono (ihx k' ks st a w (by omega) hc.1 h (by simpa [exA] using hx)) ?_
      rintro e a w ⟨s, hr, haf⟩
      exact ⟨s, hr, haf.mono (by omega)⟩
    | false =>
      refine wp_mono (ihy k' ks st a w (by omega) hc.2 h (by simpa [exA] using hx)) ?_
      rintro e a w ⟨s, hr, haf⟩
      exact ⟨s, hr, haf.mono (by omega)⟩
  | block id c ih =>
    intro k ks st a w hk hc h hx
    obtain ⟨k', rfl, r, hr, hx⟩ := ex_step hx
    simp only [step, Option.some.injEq] at hr
    subst hr
    refine wp_block (wp_mono (ih k' _ st a w (by omega) hc h hx) ?_)
    rintro e a w ⟨s, hr, haf⟩
    cases e with
    | normal =>
      obtain ⟨j, hj, hx⟩ := haf
      obtain ⟨j', rfl, r, hr', hx⟩ := ex_step hx
      simp only [step, Option.some.injEq] at hr'
      subst hr'
      exact ⟨s, hr, j', by omega, hx⟩
    | exit i =>
      obtain ⟨j, hj, hx⟩ := haf
      obtain ⟨j', rfl, r, hr', hx⟩ := ex_step hx
      simp only [step] at hr'
      simp only [Exit.inBlock]
      by_cases hi : id = i
      · subst hi
        rw [if_pos rfl] at hr'
        simp only [if_true]
        split at hr'
        · rename_i L hL
          obtain ⟨p, s', h1, h2, h3⟩ := ifP_some.1 hr'
          obtain rfl := Option.some.inj h3
          exact ⟨s', cut_sound hr h1 h2, j', by omega, hx⟩
        · obtain rfl := Option.some.inj hr'
          exact ⟨s, hr, j', by omega, hx⟩
      · rw [if_neg hi] at hr'
        obtain rfl := Option.some.inj hr'
        have hi' : ¬ i = id := fun h => hi h.symm
        simp only [hi', if_false]
        exact ⟨s, hr, j', by omega, hx⟩
    | ret => exact ⟨s, hr, haf⟩
    | _ => exact haf.elim
  | loop c ih =>
    intro k ks st a w hk hc h hx
    obtain ⟨k', rfl, r, hr, hx⟩ := ex_step hx
    obtain ⟨L, p, s, h1, h2, rfl⟩ := enter_some hr
    obtain ⟨k2, rfl, r, hr2, hx⟩ := ex_step hx
    simp only [step, Option.some.injEq] at hr2
    subst hr2
    refine wp_loop_ghost (fun j a w => ∃ s, RelX S.E w0 R0 F0 gh n s a w ∧ ex S j F (.run c s (.loop c :: ks)) = some ans ∧ j ≤ k2) k2 ⟨s, cut_sound h h1 h2, hx, Nat.le_refl _⟩ ?_
    rintro j a w ⟨s, hr, hx, hj⟩
    refine wp_mono (ih j _ s a w (by omega) hc hr hx) ?_
    rintro e a w ⟨s, hr, haf⟩
    cases e with
    | normal =>
      obtain ⟨i, hi, hx⟩ := haf
      obtain ⟨i', rfl, r, hr', hx⟩ := ex_step hx
      obtain ⟨L, p, s', h1, h2, rfl⟩ := enter_some hr'
      obtain ⟨i2, rfl, r, hr2, hx⟩ := ex_step hx
      simp only [step, Option.some.injEq] at hr2
      subst hr2
      exact ⟨i2, by omega, s', cut_sound hr h1 h2, hx, by omega⟩
    | exit i =>
      obtain ⟨j', hj', hx⟩ := haf
      obtain ⟨j2, rfl, r, hr', hx⟩ := ex_step hx
      simp only [step, Option.some.injEq] at hr'
      subst hr'
      exact ⟨s, hr, j2, by omega, hx⟩
    | ret => exact ⟨s, hr, haf⟩
    | _ => exact haf.elim
  | exit id =>
    intro k ks st a w hk hc h hx
    obtain ⟨k', rfl, r, hr, hx⟩ := ex_step hx
    simp only [step, Option.some.injEq] at hr
    subst hr
    exact wp_exit ⟨st, h, k', Nat.lt_succ_self _, hx⟩
  | ret =>
    intro k ks st a w hk hc h hx
    obtain ⟨k', rfl, r, hr, hx⟩ := ex_step hx
    simp only [step] at hr
    obtain ⟨p, b, h1, h2, rfl⟩ := finish_some hr
    simp only at hx
    subst hx
    exact wp_ret ⟨st, h, p, h1, h2⟩
  | _ =>
    intro k ks st a w hk hc h hx
    obtain ⟨k', rfl, r, hr, hx⟩ := ex_step hx
    simp only [step] at hr
    cases hr
end sound
end
end Go.Proofs.YtmanllfmgghadaaGreatDoor.PVE
namespace Go.Proofs.YtmanllfmgghadaaGreatDoor.PVE
open PV
section
variable {P : Program} {E : Env} {S : Sys} [Dm]
theorem pcalls_of {f : Nat} {fu : Func} {c : Code} {ts : List ResultVar} (hT : TyOk P E.T) (hf : P.funcs[f]? = some fu) (hname : (fu.name == "runtime.NumGoroutine") = false) (hb : fu.body = some c)
    (hres : fu.results = ts.toArray) {args : List PV} {bks : List (Option PV)} {res : PV} {al : Bool} (hbk : bks.length = args.length) (hn : args.length ≤ fu.ntmps)
    (h : ∀ w0 R0 F0 gh a w, RelX E w0 R0 F0 gh fu.ntmps (entry args) a w → c.wp P (fun e a w => (e = .normal ∨ e = .ret) ∧ ∃ st, RelX E w0 R0 F0 gh fu.ntmps st a w ∧ Fin E ts res bks al st) a w) : PCalls P E.G f args bks res al := by
  refine ⟨⟨fu, hf, hname, by simp [hb]⟩, ?_⟩
  intro w R vs fp hG hts hnd hfp hRb
  obtain ⟨σ', fpN, g, i1, i2, i3, i4, i5, i6⟩ := impL_sound (w := w) (Rv := R) args vs fp 0 (fun _ => none) (by simp) hts
  have hvl : vs.length = args.length := Ts.size (us := vs) hts
  have hl1 : (impL args 0).1.length = args.length := impL_len args 0
  have hnd' := (List.nodup_append.1 (i6.nodup_iff.1 hnd)).2.1
  have hid : ∀ (r : Nat) (x : Nat × PV), (impL args 0).2[r]? = some x → x.1 = r := by
    intro r x hx
    have : ((impL args 0).2.map (·.1))[r]? = some x.1 := by rw [List.getElem?_map, hx]; rfl
    rw [i4] at this
    have hlt := (List.getElem?_eq_some_iff.1 hx).1
    rw [List.getElem?_range' hlt] at this
    simp at this
    omega
  have hmem : ∀ r, r < (impL args 0).2.length → r ∈ (impL args 0).2.map (·.1) := fun r hr => by rw [i4]; simp; omega
  have hsub : ∀ r, r < (impL args 0).2.length → ∀ b ∈ fpN r, b ∈ fp := fun r hr b hb => i6.mem_iff.2 (List.mem_append_right _ (List.mem_flatMap.2 ⟨r, hmem r hr, hb⟩))
  have hrel : Rel w R fp (fun i => vs.getD i Go.undef) E.G fu.ntmps (fun r => (entry args).next ≤ r) R σ' (fun r => if r < (impL args 0).2.length then fpN r else []) (entry args) { tmps := vs.toArray ++ Array.replicate (fu.ntmps - vs.toArray.size) Go.undef, defers := [] } w := by
    refine ⟨fun t => ?_, fun r x hx => ?_, fun r hx => ?_, fun r => ?_, fun r s hrs b hb => ?_, fun r b hb => ?_, fun b hb => ⟨hRb b hb, .inl hb⟩, fun b hb => hb, fun _ _ _ => rfl, Nat.le_refl _, .refl _, rfl, rfl, fun r hr => ?_, hG, ?_, rfl⟩
    · simp only [entry, tmv]
      by_cases htg : ¬ t < gBase
      · simp only [htg, if_false]
        split
        · cases hc : (impL args 0).1[t - gBase]? with
          | none => simp [V]
          | some c =>
            obtain ⟨u, h1, h2⟩ := i3.at hc
            have : vs.getD (t - gBase) Go.undef = u := by rw [List.getD_eq_getElem?_getD, h1]; rfl
            rw [this]
            exact h2
        · simp [V]
      have htg : t < gBase := by omega
      simp only [htg, if_true]
      by_cases ht : t < vs.length
      · obtain ⟨c, hc⟩ : ∃ c, (impL args 0).1[t]? = some c := ⟨_, List.getElem?_eq_getElem (by omega)⟩
        obtain ⟨u, h1, h2⟩ := i3.at hc
        rw [hc]
        simp only [Option.getD_some]
        have : (vs.toArray ++ Array.replicate (fu.ntmps - vs.toArray.size) Go.undef).getD t Go.undef = u := by
          rw [Array.getD_eq_getD_getElem?, Array.getElem?_append_left (by simpa using ht)]
          simp [h1]
        rw [this]
        exact h2
      · rw [List.getElem?_eq_none (by omega)]
        simp only [Option.getD_none, V]
        refine ⟨?_, trivial⟩
        rw [Array.getD_eq_getD_getElem?, Array.getElem?_append_right (by simpa using ht)]
        simp only [Array.getElem?_replicate]
        split <;> rfl
    · simp only [entry] at hx
      cases hy : (impL args 0).2[r]? with
      | none => simp [hy] at hx
      | some y =>
        simp only [hy, Option.map_some, Option.some.injEq] at hx
        subst hx
        have hlt := (List.getElem?_eq_some_iff.1 hy).1
        obtain ⟨k, k1, k2, k3⟩ := i5 y (List.mem_of_getElem? hy)
        have := hid r y hy
        subst this
        refine ⟨k, k1, ?_, k3⟩
        simp only [hlt, if_true]
        exact k2
    · by_cases hlt : r < (impL args 0).2.length
      · simp [entry, hlt] at hx
      · simp [hlt]
    · by_cases hlt : r < (impL args 0).2.length
      · simp only [hlt, if_true]
        exact (nodup_flat hnd').1 r (hmem r hlt)
      · simp [hlt]
    · by_cases h1 : r < (impL args 0).2.length
      · by_cases h2 : s < (impL args 0).2.length
        · simp only [h1, h2, if_true] at hb ⊢
          exact (nodup_flat hnd').2 r (hmem r h1) s (hmem s h2) hrs b hb
        · simp [h2]
      · simp [h1] at hb
    · by_cases h1 : r < (impL args 0).2.length
      · simp only [h1, if_true] at hb
        have hbf := hsub r h1 b hb
        exact ⟨(hfp b hbf).1, (hfp b hbf).2, .inl hbf⟩
      · simp [h1] at hb
    · have hr' : (impL args 0).2.length ≤ r := hr
      refine ⟨by rw [i2 r (.inr (by omega))], ?_⟩
      simp [entry, List.getElem?_eq_none hr']
    · simp only [Array.size_append, Array.size_replicate, List.size_toArray]
      omega
  refine calls_of_wp hf hb ?_
  refine wp_mono (h _ _ _ _ _ _ ⟨_, _, _, hrel⟩) ?_
  rintro ex a w' ⟨hex, st, hr, hq⟩
  have main : Fin E ts res bks al st → a.defers = [] ∧ ∃ v, (results fu a.tmps).run P w' = .ok v w' ∧ ∃ (v' : Value) (R' : Nat → Prop) (fr fb : List Nat), Ending.returned v = .returned v' ∧
      V w' (fun b => R' b ∧ (al = false → w.heap.size ≤ b)) (fun _ => none) res v' fr ∧ Bs w' (fun b => R' b ∧ (al = false → w.heap.size ≤ b)) vs bks fb ∧ (fr ++ fb).Nodup ∧
      (∀ b ∈ fr ++ fb, b < w'.heap.size ∧ ¬ R' b ∧ (b ∈ fp ∨ w.heap.size ≤ b)) ∧ (∀ b, R b → R' b) ∧
      (∀ b, R' b → b < w'.heap.size ∧ (R b ∨ b ∈ fp ∨ w.heap.size ≤ b)) ∧
      (∀ b, b < w.heap.size → b ∉ fp → w'.heap[b]? = w.heap[b]?) ∧ w.heap.size ≤ w'.heap.size ∧ TapeOk w w' ∧ w'.os = w.os ∧ w'.output = w.output := by
    rintro ⟨⟨ps, hps, he⟩, hfree, hal⟩
    obtain ⟨R1, σ1, fps1, hr⟩ := hr
    obtain ⟨lo, lf, f, gg, us, hback, hrun, hTs, hperm⟩ := expL_sound (P := P) hT hr ts ps _ he
    obtain ⟨lb, fb, ⟨hlo, hlf⟩, hbp, hbs⟩ := backL_sound hr 0 bks vs _ hback (by rw [hbk, hvl]) (fun j v hj => by simp only [Nat.zero_add]; rw [List.getD_eq_getElem?_getD, hj]; rfl)
    have hall : (f ++ fb ++ gg).Perm ((lo ++ lb).flatMap fps1) := by
      rw [List.flatMap_append]
      refine List.Perm.trans ?_ (hperm.append hbp)
      rw [List.append_assoc, List.append_assoc]
      exact List.perm_append_comm.append_left _
    refine ⟨hr.df, _, results_run hres hrun, _, addR R1 (lf.flatMap fps1), f, fb, rfl, ?_, ?_, ?_, ?_, fun b hb => .inl (hr.R0R b hb), ?_, hr.keep, hr.sz, hr.tape, hr.os, hr.out⟩
    · have hul : us.length = ps.length := Ts.size (us := us) hTs
      have hV : V w' (addR R1 (lf.flatMap fps1)) σ1 res (resOf us) f := by
        rcases ts with _ | ⟨t, _ | ⟨u, ts⟩⟩
        · simp only at hps
          subst hps
          rcases ps with _ | ⟨p, ps⟩
          · have : us = [] := List.length_eq_zero_iff.1 hul
            subst this
            simp only [V, resOf]
            exact ⟨_, rfl, hTs⟩
          · simp [ExpL] at he
        · simp only at hps
          subst hps
          simp only [Ts] at hTs
          obtain ⟨u, us', f1, f2, rfl, h2, ⟨rfl, rfl⟩, rfl⟩ := hTs
          simpa [resOf] using h2
        · simp only at hps
          subst hps
          rcases ps with _ | ⟨p, _ | ⟨q, ps⟩⟩
          · simp [ExpL] at he
          · exfalso
            simp only [ExpL] at he
            rcases he with he | he
            · cases hx : expRV E st t with
              | none => rw [hx] at he; exact he.elim
              | some x =>
                rw [hx] at he
                unfold ExpK at he
                rcases he with ⟨_, he⟩ | ⟨_, he⟩ <;> exact he
            · unfold ExpZ at he
              split at he
              · exact he
              · exact he.2
          · rcases us with _ | ⟨u1, _ | ⟨u2, us⟩⟩
            · simp at hul
            · simp at hul
            · simp only [V, resOf]
              exact ⟨_, rfl, hTs⟩
      have hV' := V.free (σ' := fun _ => none) _ _ _ hfree hV
      cases al with
      | true => exact V.mono (fun b hb => ⟨hb, by simp⟩) (Le.refl _) (fun _ _ => rfl) _ _ _ (fun _ _ => rfl) hV'
      | false => exact V.noR _ _ _ (hal rfl).1 hV'
    · cases al with
      | true => exact hbs _ (.inl fun b hb => ⟨.inl hb, by simp⟩)
      | false => exact hbs _ (.inr (hal rfl).2)
    · exact (List.nodup_append.1 (hall.nodup_iff.2 (perm_nodup hr hlo))).1
    · intro b hb
      obtain ⟨x, hx, hbx⟩ := List.mem_flatMap.1 (hall.mem_iff.1 (List.mem_append_left _ hb))
      obtain ⟨h1, h2, h3⟩ := hr.fb x b hbx
      refine ⟨h1, fun hR => ?_, h3⟩
      rcases hR with hR | hR
      · exact h2 hR
      · obtain ⟨y, hy, hby⟩ := List.mem_flatMap.1 hR
        have hne : y ≠ x := by rintro rfl; exact hlf _ hy hx
        exact hr.dj y x hne b hby hbx
    · intro b hb
      rcases hb with hb | hb
      · exact hr.Rb b hb
      · obtain ⟨y, hy, hby⟩ := List.mem_flatMap.1 hb
        obtain ⟨h1, _, h3⟩ := hr.fb y b hby
        exact ⟨h1, .inr h3⟩
  rcases hex with rfl | rfl
  · exact main hq
  · exact main hq
theorem ifP_inl {α : Type} {x : Option (Prop × α)} {K : α → Conf} {b : Ans} (h : ifP x (fun e => some (.inl (K e))) = some (.inr b : Conf ⊕ Ans)) : False := by
  obtain ⟨p, e, h1, h2, h3⟩ := ifP_some.1 h
  cases h3
theorem step_inr {call : Nat → List PV → Option Ans} {F : Fx} {c : Conf} {b : Ans} (h : step call E F c = some (.inr b)) : ∃ p st, finR E F st = some (p, b) ∧ p := by
  have fin : ∀ {st : St}, finish E F st = some (.inr b) → ∃ p st, finR E F st = some (p, b) ∧ p := by
    intro st h
    obtain ⟨p, b', h1, h2, h3⟩ := finish_some h
    cases h3
    exact ⟨p, st, h1, h2⟩
  have ent : ∀ {c : Code} {st : St} {ks : List Fr}, enter F c st ks = some (.inr b) → False := by
    intro c st ks h
    obtain ⟨L, p, s, h1, h2, h3⟩ := enter_some h
    cases h3
  unfold step at h
  repeat' (first
    | exact fin h
    | exact (ent h).elim
    | (cases h; done)
    | exact (ifP_inl h).elim
    | (unfold runO at h)
    | (unfold runD at h)
    | split at h)
theorem ex_bks {F : Fx} : ∀ {k : Nat} {c : Conf} {ans : Ans}, ex S k F c = some ans → ans.bks.length = F.cm.modes.length
  | 0, c, ans, h => by simp [ex] at h
  | k + 1, c, ans, h => by
    obtain ⟨k', hk, r, hr, hx⟩ := ex_step h
    obtain rfl : k = k' := by omega
    cases r with
    | inl c' =>
      cases c' with
      | amb cs =>
        simp only [exA] at hx
        obtain ⟨h1, h2⟩ := ambA_some.1 hx
        cases cs with
        | nil => exact absurd rfl h1
        | cons c cs => exact ex_bks (h2 c (by simp))
      | _ => exact ex_bks hx
    | inr b =>
      simp only at hx
      subst hx
      obtain ⟨p, st, h1, h2⟩ := step_inr hr
      exact (finR_fin h1 h2).2
theorem call_sound_all (hT : TyOk S.P S.E.T) (hS : SOk S.P S.E.S) (hm : S.P.follows .mixedOrders = true) (hlib : CallOk S.P S.E S.lib) : ∀ K, CallOk S.P S.E (callOf S (ex S K)) := by
  intro K
  induction K using Nat.strongRecOn with
  | _ K ih =>
    intro f xs ans h
    unfold callOf at h
    split at h
    · rename_i b hl
      obtain rfl := Option.some.inj h
      exact hlib _ _ _ hl
    · split at h
      · cases h
      · rename_i fu hf
        split at h
        · cases h
        · rename_i c hb
          split at h
          case isFalse => cases h
          rename_i hc
          obtain ⟨h1, h2, h3⟩ := hc
          simp only [fnChk, Bool.and_eq_true, Bool.not_eq_true'] at h1
          obtain ⟨K', rfl, _⟩ := ex_step h
          have hcall := ih K' (Nat.lt_succ_self _)
          have hlen : ∀ w0 R0 F0 gh a w, RelX S.E w0 R0 F0 gh fu.ntmps (entry xs) a w → c.wp S.P (fun e a w => (e = .normal ∨ e = .ret) ∧ ∃ st, RelX S.E w0 R0 F0 gh fu.ntmps st a w ∧ ∃ p, finR S.E (fxOf S.E S.X f fu) st = some (p, ans) ∧ p) a w := by
            intro w0 R0 F0 gh a w hr
            refine wp_mono (run_sound hT hS hm hcall c _ [] (entry xs) a w (Nat.le_refl _) h1.1 hr h) ?_
            rintro e a w ⟨s, hr, haf⟩
            cases e with
            | normal =>
              obtain ⟨j, hj, hx⟩ := haf
              obtain ⟨j', rfl, r, hr', hx⟩ := ex_step hx
              simp only [step] at hr'
              obtain ⟨p, b, k1, k2, rfl⟩ := finish_some hr'
              simp only at hx
              subst hx
              exact ⟨.inl rfl, s, hr, p, k1, k2⟩
            | exit i =>
              obtain ⟨j, hj, hx⟩ := haf
              obtain ⟨j', rfl, r, hr', hx⟩ := ex_step hx
              simp only [step] at hr'
              cases hr'
            | ret => exact ⟨.inr rfl, s, hr, haf⟩
            | _ => exact haf.elim
          by_cases hbk : ans.bks.length = xs.length
          · refine pcalls_of hT hf h1.2 hb (ts := fu.results.toList) (by simp) hbk h3 fun w0 R0 F0 gh a w hr => wp_mono (hlen w0 R0 F0 gh a w hr) ?_
            rintro e a w ⟨he, s, hr, p, k1, k2⟩
            exact ⟨he, s, hr, (finR_fin k1 k2).1⟩
          · -- no run ends so
            exfalso
            refine hbk ?_
            rw [← h2]
            exact ex_bks h
theorem R_sound (hT : TyOk S.P S.E.T) (hS : SOk S.P S.E.S) (hm : S.P.follows .mixedOrders = true) (hlib : CallOk S.P S.E S.lib) {f : Nat} {xs : List PV} {ans : Ans} (h : R S f xs = some ans) : PCalls S.P S.E.G f xs ans.bks ans.res (S.E.M f).al := by
  obtain ⟨k, hk⟩ := R_some.1 h
  exact call_sound_all hT hS hm hlib k _ _ _ hk
end
def tyDesc (P : Program) : TypeDesc → Option TyD
  | .int k => some (.int k)
  | .bool => some .bool
  | .string => some .str
  | .slice e => some (.slice e)
  | .pointer e => some (.ptr e)
  | .struct fds => if fds.toList.all (fun f => match P.info? f.type with
      | some ti => ti.size != 0
      | none => false) then some (.struct (fds.toList.map fun f => (f.offset, f.type))) else none
  | .array _ _ => none
  | .map k e => some (.map k e)
  | _ => some .other
def aggOk : TyD → Value → Bool
  | .struct _, .agg _ => true
  | .struct _, _ => false
  | _, .agg _ => false
  | _, z => z.oneCell'
def cellSz (P : Program) : Nat → TypeId → List Nat
  | 0, _ => []
  | n + 1, t => match P.underlying t with
    | some (.slice e) => [match P.info? e with
      | some i => i.size
      | none => 0]
    | some (.struct fds) => fds.toList.flatMap fun f => cellSz P n f.type
    | _ => [0]
def zeroPV (u : Value) (sz : Nat) : PV := match leafPV u with
  | .slo _ [] => .slo sz []
  | p => p
def zeroL : List Value → List Nat → List PV
  | [], _ => []
  | u :: us, ns => zeroPV u (ns.headD 0) :: zeroL us ns.tail
def tyOf (P : Program) (t : Nat) : Option TyI :=
  match P.info? t, P.underlying t with
  | some ti, some d => match ti.zero, tyDesc P d with
    | some z, some d' => if z.cells.size = ti.size ∧ 0 < ti.size ∧ z.cells.toList.all (fun u => u.oneCell') = true ∧ aggOk d' z = true then some ⟨d', ti.size, ti.bytes, zeroL z.cells.toList (cellSz P 8 t)⟩ else none
    | _, _ => none
  | _, _ => none
theorem zv_leaf {u : Value} (h : u.oneCell' = true) : zv (leafPV u) = some u := by
  unfold leafPV
  split <;> simp_all [zv]
theorem zv_zero {u : Value} {sz : Nat} (h : u.oneCell' = true) : zv (zeroPV u sz) = some u := by
  have := zv_leaf h
  unfold zeroPV
  split
  · rename_i k hk
    rw [hk] at this
    simpa [zv] using this
  · exact this
theorem zeroL_ok : ∀ (us : List Value) (ns : List Nat), us.all (fun u => u.oneCell') = true → (zeroL us ns).map zv = us.map some
  | [], ns, _ => rfl
  | u :: us, ns, h => by
    simp only [List.all_cons, Bool.and_eq_true] at h
    simp only [zeroL, List.map_cons, zv_zero h.1, zeroL_ok us ns.tail h.2]
theorem tyOk_tyOf (P : Program) : TyOk P (tyOf P) := by
  intro t i hi
  unfold tyOf at hi
  split at hi
  case h_2 => cases hi
  rename_i ti d h1 h2
  split at hi
  case h_2 => cases hi
  rename_i z d' h3 h4
  split at hi
  case isFalse => cases hi
  rename_i hc
  obtain ⟨c1, c2, c3, c4⟩ := hc
  simp only [Option.some.injEq] at hi
  subst hi
  refine ⟨?_, ti, z, h1, h3, rfl, rfl, c1, c2, fun ha => ?_, fun ha => ?_, ?_⟩
  · cases d <;> simp only [tyDesc, Option.some.injEq] at h4 <;> (try subst h4) <;> simp only [DescOk, h2, Option.some.injEq, reduceCtorEq] <;> (try exact ⟨_, rfl, trivial⟩)
    case struct fds =>
      split at h4
      case isFalse => cases h4
      rename_i hall
      simp only [Option.some.injEq] at h4
      subst h4
      refine ⟨fds, rfl, rfl, fun f hf => ?_⟩
      have := List.all_eq_true.1 hall f hf
      split at this
      · rename_i ti hti
        exact ⟨ti, hti, by simpa using this⟩
      · cases this
    all_goals cases h4
  · cases d' <;> simp [isAggT] at ha
    cases z <;> simp [aggOk] at c4
    exact ⟨_, rfl⟩
  · cases d' <;> simp [isAggT] at ha <;> cases z <;> simp_all [aggOk]
  · exact zeroL_ok _ _ c3
end Go.Proofs.YtmanllfmgghadaaGreatDoor.PVE
namespace Go.Proofs.YtmanllfmgghadaaGreatDoor.PVE
open PV
class Enc {α : Type} (f : α → PV) (k : outParam Nat) : Prop where
  free : ∀ a, (f a).free
  okr : ∀ a, (f a).okr
  len : ∀ a, (f a).cells.length = k
class EncN {α : Type} (f : α → PV) : Prop where
  noR : ∀ a, (f a).noR
class EncS {α : Type} (f : α → PV) (g : outParam (α → PV)) : Prop where
  strip : ∀ a, (f a).strip = g a
class EncC {α : Type} (f : α → PV) : Prop where
  cell : ∀ a, (f a).cells = [f a]
class EncF {α : Type} (f : α → PV) : Prop where
  flat : ∀ a, (f a).flat = true
def bytePV (b : UInt8) : PV := .int .u8 b.toNat
instance : Enc PV.str 1 := ⟨fun _ => trivial, fun _ => trivial, fun _ => rfl⟩
instance {k : IntKind} : Enc (PV.int k) 1 := ⟨fun _ => trivial, fun _ => trivial, fun _ => rfl⟩
instance : Enc PV.bool 1 := ⟨fun _ => trivial, fun _ => trivial, fun _ => rfl⟩
instance : Enc bytePV 1 := ⟨fun _ => trivial, fun _ => trivial, fun _ => rfl⟩
instance : EncN PV.str := ⟨fun _ => trivial⟩
instance {k : IntKind} : EncN (PV.int k) := ⟨fun _ => trivial⟩
instance : EncN PV.bool := ⟨fun _ => trivial⟩
instance : EncN bytePV := ⟨fun _ => trivial⟩
instance : EncF PV.str := ⟨fun _ => rfl⟩
instance {k : IntKind} : EncF (PV.int k) := ⟨fun _ => rfl⟩
instance : EncF PV.bool := ⟨fun _ => rfl⟩
instance : EncF bytePV := ⟨fun _ => rfl⟩
instance : EncS PV.str PV.str := ⟨fun _ => rfl⟩
instance {k : IntKind} : EncS (PV.int k) (PV.int k) := ⟨fun _ => rfl⟩
instance : EncS PV.bool PV.bool := ⟨fun _ => rfl⟩
instance : EncS bytePV bytePV := ⟨fun _ => rfl⟩
section enc
variable {α : Type} {f g : α → PV} {k : Nat}
@[go_sem] theorem enc_freeL [Enc f k] : ∀ (l : List α), PV.freeL (l.map f) = True
  | [] => by simp [PV.freeL]
  | x :: l => by simp [PV.freeL, enc_freeL l, Enc.free x]
@[go_sem] theorem enc_noRL [EncN f] : ∀ (l : List α), PV.noRL (l.map f) = True
  | [] => by simp [PV.noRL]
  | x :: l => by simp [PV.noRL, enc_noRL l, EncN.noR x]
@[go_sem] theorem enc_stripL [EncS f g] : ∀ (l : List α), PV.stripL (l.map f) = l.map g
  | [] => rfl
  | x :: l => by simp only [List.map_cons, PV.stripL, enc_stripL l, EncS.strip x]
@[go_sem] theorem enc_allLen [Enc f k] (l : List α) : allLen k (l.map f) = True := by
  refine eq_true fun e he => ?_
  obtain ⟨x, _, rfl⟩ := List.mem_map.1 he
  exact Enc.len x
@[go_sem] theorem enc_flatL [EncF f] (l : List α) : flatL (l.map f) = True := by
  refine eq_true fun e he => ?_
  obtain ⟨x, _, rfl⟩ := List.mem_map.1 he
  exact EncF.flat x
@[go_sem] theorem drop_map (l : List α) (n : Nat) : (l.map f).drop n = (l.drop n).map f := by simp
@[go_sem] theorem take_map (l : List α) (n : Nat) : (l.map f).take n = (l.take n).map f := by simp
@[go_sem] theorem enc_free [Enc f k] (a : α) : (f a).free = True := eq_true (Enc.free a)
@[go_sem] theorem enc_okr [Enc f k] (a : α) : (f a).okr = True := eq_true (Enc.okr a)
@[go_sem] theorem enc_noR [EncN f] (a : α) : (f a).noR = True := eq_true (EncN.noR a)
@[go_sem] theorem enc_strip [EncS f g] (a : α) : (f a).strip = g a := EncS.strip a
@[go_sem] theorem enc_len [Enc f k] (a : α) : (f a).cells.length = k := Enc.len a
@[go_sem] theorem cut_map (l : List α) (a b : Int) : cut (l.map f) a b = (cut l a b).map f := by simp [cut, List.map_take, List.map_drop]
end enc
@[go_sem] theorem flatL_nil : flatL [] = True := by simp [flatL]
@[go_sem] theorem flatL_cons (e : PV) (es : List PV) : flatL (e :: es) = (e.flat = true ∧ flatL es) := by simp [flatL]
attribute [go_sem] PV.flat PV.flatC
@[go_sem] theorem bytes_back (l : List UInt8) : (l.map bytePV).map PV.toByte = l := by
  induction l with
  | nil => rfl
  | cons b l ih => simp only [List.map_cons, ih, bytePV, PV.toByte, Int.toNat_natCast, UInt8.ofNat_toNat]
@[go_sem] theorem bytes_are (l : List UInt8) : (∀ e ∈ l.map bytePV, e.isByte = true) = True := by
  refine eq_true fun e he => ?_
  obtain ⟨x, _, rfl⟩ := List.mem_map.1 he
  rfl
@[go_sem] theorem bytePV_cells (b : UInt8) : (bytePV b).cells = [.int .u8 b.toNat] := rfl
def noT : Nat → PV := fun _ => .undef
def voidT : Nat → PV := fun t => if t < gBase then .void else .undef
def noS : Nat → Option Root := fun _ => none
@[go_sem] theorem noT_at {t : Nat} : noT t = .undef := rfl
@[go_sem] theorem voidT_at {t : Nat} : voidT t = if t < gBase then .void else .undef := rfl
@[go_sem] theorem gBase_eq : gBase = 1000000 := rfl
@[go_sem] theorem noS_at {t : Nat} : noS t = none := rfl
@[go_sem] theorem upd_at {α : Type} {f : Nat → α} {i : Nat} {x : α} {j : Nat} : upd f i x j = if j = i then x else f j := rfl
def tempsOf : List (Nat × PV) → (Nat → PV)
  | [] => noT
  | (t, v) :: ts => upd (tempsOf ts) t v
def storeFrom : Nat → List PV → (Nat → Option Root)
  | _, [] => noS
  | k, pv :: rs => upd (storeFrom (k + 1) rs) k (some ⟨pv, []⟩)
def argsFrom : Nat → List PV → (Nat → PV)
  | _, [] => voidT
  | k, pv :: vs => upd (argsFrom (k + 1) vs) k pv
attribute [go_sem] tempsOf storeFrom argsFrom
theorem tempsOf_at : ∀ (ts : List (Nat × PV)) (t : Nat), tempsOf ts t = (ts.lookup t).getD .undef
  | [], t => rfl
  | (k, v) :: ts, t => by
    simp only [tempsOf, upd_at, List.lookup_cons, tempsOf_at ts t]
    by_cases h : t = k
    · simp [h]
    · have : (t == k) = false := by simpa using h
      simp [h, this]
theorem storeFrom_at : ∀ (rs : List PV) (k r : Nat), storeFrom k rs r = if k ≤ r then (rs[r - k]?).map (fun pv => (⟨pv, []⟩ : Root)) else none
  | [], k, r => by simp [storeFrom, noS]
  | pv :: rs, k, r => by
    simp only [storeFrom, upd_at, storeFrom_at rs (k + 1) r]
    by_cases h : r = k
    · subst h; simp
    · by_cases h2 : k ≤ r
      · have h3 : k + 1 ≤ r := by omega
        simp only [h, if_false, h2, h3, if_true]
        have : r - k = (r - (k + 1)) + 1 := by omega
        rw [this, List.getElem?_cons_succ]
      · have h3 : ¬ k + 1 ≤ r := by omega
        simp [h, h2, h3]
def ghostFrom (T : Nat → PV) : Nat → List PV → List PV → (Nat → PV)
  | k, a :: args, v :: vs => if isOwn a = true then upd (ghostFrom T (k + 1) args vs) (gBase + k) v else ghostFrom T (k + 1) args vs
  | _, _, _ => T
attribute [go_sem] ghostFrom isOwn PV.isSlo
theorem argsFrom_at : ∀ (vs : List PV) (k t : Nat), argsFrom k vs t = if k ≤ t ∧ t - k < vs.length then (vs[t - k]?).getD .void else voidT t
  | [], k, r => by simp [argsFrom]
  | pv :: rs, k, r => by
    simp only [argsFrom, upd_at, argsFrom_at rs (k + 1) r]
    by_cases h : r = k
    · subst h; simp
    · by_cases h2 : k ≤ r
      · have h3 : k + 1 ≤ r := by omega
        have : r - k = (r - (k + 1)) + 1 := by omega
        simp only [h, if_false, h2, h3, true_and, this, List.getElem?_cons_succ, List.length_cons, Nat.add_lt_add_iff_right]
      · have h3 : ¬ k + 1 ≤ r := by omega
        simp [h, h2, h3]
theorem ghostFrom_at (T : Nat → PV) : ∀ (args vs : List PV) (k t : Nat), args.length = vs.length → ghostFrom T k args vs t = if gBase + k ≤ t ∧ ((args[t - (gBase + k)]?).any isOwn) = true then (vs[t - (gBase + k)]?).getD .undef else T t
  | [], vs, k, t, hl => by
    cases vs with
    | nil => simp [ghostFrom]
    | cons v vs => simp at hl
  | a :: args, [], k, t, hl => by simp at hl
  | a :: args, v :: vs, k, t, hl => by
    have ih := ghostFrom_at T args vs (k + 1) t (by simpa using hl)
    by_cases h : t = gBase + k
    · subst h
      have h2 : ¬ gBase + (k + 1) ≤ gBase + k := by omega
      simp only [h2, false_and, if_false] at ih
      simp only [ghostFrom]
      by_cases ha : isOwn a = true
      · simp [ha, upd_at]
      · simp [ha, ih]
    · have h5 : ghostFrom T k (a :: args) (v :: vs) t = ghostFrom T (k + 1) args vs t := by
        simp only [ghostFrom]
        split
        · simp [upd_at, h]
        · rfl
      rw [h5, ih]
      by_cases h2 : gBase + k ≤ t
      · have h3 : gBase + (k + 1) ≤ t := by omega
        have : t - (gBase + k) = (t - (gBase + (k + 1))) + 1 := by omega
        simp only [h2, h3, true_and, this, List.getElem?_cons_succ]
      · have h3 : ¬ gBase + (k + 1) ≤ t := by omega
        simp [h2, h3]
theorem mkSt_eq {ts : List (Nat × PV)} {rs : List PV} : mkSt ts rs = ⟨tempsOf ts, storeFrom 0 rs, rs.length⟩ := by
  unfold mkSt
  congr 1
  · funext t; rw [tempsOf_at]
  · funext r; rw [storeFrom_at]; simp
theorem entry_eq {args : List PV} (hlen : args.length ≤ gBase) : entry args = ⟨ghostFrom (argsFrom 0 (impL args 0).1) 0 args (impL args 0).1, storeFrom 0 ((impL args 0).2.map (·.2)), (impL args 0).2.length⟩ := by
  unfold entry
  congr 1
  · funext t
    rw [ghostFrom_at _ _ _ _ _ (impL_len args 0).symm, argsFrom_at]
    simp only [Nat.add_zero, Nat.sub_zero, Nat.zero_le, true_and]
    by_cases h : t < gBase
    · have h2 : ¬ gBase ≤ t := by omega
      simp only [h, if_true, h2, false_and, if_false]
      split
      · rfl
      · rename_i h3
        rw [List.getElem?_eq_none (by omega)]
        simp [voidT, h]
    · have h2 : gBase ≤ t := by omega
      simp only [h, if_false, h2, true_and]
      split
      · rfl
      · rename_i h4
        split
        · rename_i h3
          rw [impL_len] at h3
          omega
        · simp [voidT, h]
  · funext r; rw [storeFrom_at]; simp [List.getElem?_map]; rfl
@[go_sem] theorem applyS_nil {S : Nat → Option Root} : applyStore S [] [] = S := rfl
@[go_sem] theorem applyS_rem {S : Nat → Option Root} {r : Nat} {rem : List Nat} {add : List (Nat × Root)} : applyStore S (r :: rem) add = applyStore (upd S r none) rem add := rfl
@[go_sem] theorem applyS_add {S : Nat → Option Root} {r : Nat} {x : Root} {add : List (Nat × Root)} : applyStore S [] ((r, x) :: add) = applyStore (upd S r (some x)) [] add := rfl
section
variable {E : Env} {st : St}
@[go_sem] theorem ev_tmp {T : Nat → PV} {S : Nat → Option Root} {N t : Nat} : ev E ⟨T, S, N⟩ (.tmp t) = if t < gBase then T t else .undef := rfl
@[go_sem] theorem ev_const {v : Value} : ev E st (.const v) = constPV v := rfl
@[go_sem] theorem ev_func {f : Nat} : ev E st (.func f) = .fn f [] := rfl
@[go_sem] theorem ev_global {g : Nat} : ev E st (.global g) = (match E.G g with
    | some cs => .pro cs
    | none => .undef) := rfl
@[go_sem] theorem constPV_bool {b : Bool} : constPV (.bool b) = .bool b := rfl
@[go_sem] theorem constPV_int {k : IntKind} {i : Int} : constPV (.int k i) = .int k i := rfl
@[go_sem] theorem constPV_str {a : Array UInt8} : constPV (.string ⟨a⟩) = .str a.toList := rfl
@[go_sem] theorem leafPV_str {a : Array UInt8} : leafPV (.string ⟨a⟩) = .str a.toList := rfl
@[go_sem] theorem constPV_nil : constPV (.slice none 0 0) = .nilS := rfl
@[go_sem] theorem constPV_agg {cs : Array Value} : constPV (.agg cs) = if cs.toList.all (·.oneCell') then .agg (cs.toList.map leafPV) else .undef := rfl
@[go_sem] theorem leafPV_bool {b : Bool} : leafPV (.bool b) = .bool b := rfl
@[go_sem] theorem leafPV_int {k : IntKind} {i : Int} : leafPV (.int k i) = .int k i := rfl
@[go_sem] theorem leafPV_nil : leafPV (.slice none 0 0) = .slo 0 [] := rfl
end
section
variable (S : Sys) (F : Fx)
def effE (x : Option (Prop × Eff)) (d : Option Nat) (all : Array Oper) (l : List Oper) (st : St) (ks : List Fr) (r : Ans) : Prop := match x with
  | some (p, e) => p ∧ Ends S F (.ops all l (st.app d e) ks) r
  | none => False
def effD (x : Option (Prop × Eff)) (o : Op) (d : Option Nat) (all : Array Oper) (i : Nat) (l : List Oper) (log : List (Nat × List Nat × List Nat)) (st : St) (ks : List Fr) (r : Ans) : Prop := match x with
  | some (p, e) => p ∧ Ends S F (.dops all (i + 1) l (addLog i (touchOp S.E st o) (wTok (softW S.E st o) e.W) log) (st.app d e) ks) r
  | none => False
def grdV (v : PV) (t : Nat) (j : Nat) (w : Bool) (o : Oper) (all : Array Oper) (l : List Oper) (st : St) (ks : List Fr) (r : Ans) : Prop := v = ev S.E st (.tmp t) ∧ match v with
  | .bool b => if b = w then effE S F (opR (R S) S.E st o.op) o.dst all l st ks r else Ends S F (.ops all l (st.skip o.dst) ks) r
  | .void => Ends S F (.ops all l (st.skip o.dst) ks) r
  | _ => False
def grdE (x : Option Nat) (j : Nat) (w : Bool) (o : Oper) (all : Array Oper) (l : List Oper) (st : St) (ks : List Fr) (r : Ans) : Prop := x = dstAt all j ∧ match x with
  | some t => grdV S F (ev S.E st (.tmp t)) t j w o all l st ks r
  | none => False
def grdVD (v : PV) (t : Nat) (j : Nat) (w : Bool) (o : Oper) (all : Array Oper) (i : Nat) (l : List Oper) (log : List (Nat × List Nat × List Nat)) (st : St) (ks : List Fr) (r : Ans) : Prop := v = ev S.E st (.tmp t) ∧ match v with
  | .bool b => if b = w then effD S F (opR (R S) S.E st o.op) o.op o.dst all i l log st ks r else Ends S F (.dops all (i + 1) l log (st.skip o.dst) ks) r
  | .void => Ends S F (.dops all (i + 1) l log (st.skip o.dst) ks) r
  | _ => False
def grdED (x : Option Nat) (j : Nat) (w : Bool) (o : Oper) (all : Array Oper) (i : Nat) (l : List Oper) (log : List (Nat × List Nat × List Nat)) (st : St) (ks : List Fr) (r : Ans) : Prop := x = dstAt all j ∧ match x with
  | some t => grdVD S F (ev S.E st (.tmp t)) t j w o all i l log st ks r
  | none => False
def condE (v : PV) (a b : Code) (st : St) (ks : List Fr) (r : Ans) : Prop := match v with
  | .bool t => if t = true then Ends S F (.run a st ks) r else Ends S F (.run b st ks) r
  | _ => False
def cutE (x : Option (Prop × St)) (c : Code) (ks : List Fr) (r : Ans) : Prop := match x with
  | some (p, s) => p ∧ Ends S F (.head c s ks) r
  | none => False
def cutB (x : Option (Prop × St)) (ks : List Fr) (r : Ans) : Prop := match x with
  | some (p, s) => p ∧ Ends S F (.back s ks) r
  | none => False
def entE (x : Option (List Nat)) (c : Code) (st : St) (ks : List Fr) (r : Ans) : Prop := match x with
  | some L => cutE S F (cutS L st) c ks r
  | none => False
def outE (x : Option (List Nat)) (st : St) (ks : List Fr) (r : Ans) : Prop := match x with
  | some L => cutB S F (cutS L st) ks r
  | none => Ends S F (.back st ks) r
def finE (x : Option (Prop × Ans)) (r : Ans) : Prop := match x with
  | some (p, b) => p ∧ b = r
  | none => False
end
section
variable {S : Sys} {F : Fx} {st : St} {ks : List Fr} {r : Ans} {all : Array Oper} {l : List Oper} {i : Nat} {log : List (Nat × List Nat × List Nat)} {o : Oper}
theorem effE_congr {x x' : Option (Prop × Eff)} {d : Option Nat} (h : x = x') : effE S F x d all l st ks r = effE S F x' d all l st ks r := by rw [h]
theorem effD_congr {x x' : Option (Prop × Eff)} {op : Op} {d : Option Nat} (h : x = x') : effD S F x op d all i l log st ks r = effD S F x' op d all i l log st ks r := by rw [h]
theorem grdV_congr {v v' : PV} {t j : Nat} {w : Bool} (h : v = v') : grdV S F v t j w o all l st ks r = grdV S F v' t j w o all l st ks r := by rw [h]
theorem grdE_congr {x x' : Option Nat} {j : Nat} {w : Bool} (h : x = x') : grdE S F x j w o all l st ks r = grdE S F x' j w o all l st ks r := by rw [h]
theorem grdVD_congr {v v' : PV} {t j : Nat} {w : Bool} (h : v = v') : grdVD S F v t j w o all i l log st ks r = grdVD S F v' t j w o all i l log st ks r := by rw [h]
theorem grdED_congr {x x' : Option Nat} {j : Nat} {w : Bool} (h : x = x') : grdED S F x j w o all i l log st ks r = grdED S F x' j w o all i l log st ks r := by rw [h]
theorem condE_congr {v v' : PV} {a b : Code} (h : v = v') : condE S F v a b st ks r = condE S F v' a b st ks r := by rw [h]
theorem cutE_congr {x x' : Option (Prop × St)} {c : Code} (h : x = x') : cutE S F x c ks r = cutE S F x' c ks r := by rw [h]
theorem cutB_congr {x x' : Option (Prop × St)} (h : x = x') : cutB S F x ks r = cutB S F x' ks r := by rw [h]
theorem entE_congr {x x' : Option (List Nat)} {c : Code} (h : x = x') : entE S F x c st ks r = entE S F x' c st ks r := by rw [h]
theorem outE_congr {x x' : Option (List Nat)} (h : x = x') : outE S F x st ks r = outE S F x' st ks r := by rw [h]
theorem finE_congr {x x' : Option (Prop × Ans)} (h : x = x') : finE x r = finE x' r := by rw [h]
attribute [congr] effE_congr effD_congr grdV_congr grdE_congr grdVD_congr grdED_congr condE_congr cutE_congr cutB_congr entE_congr outE_congr finE_congr
theorem goes_ifP' {α : Type} {x : Option (Prop × α)} {K : α → Option (Conf ⊕ Ans)} : goes S F (ifP x K) r = (match x with
    | some (p, e) => p ∧ goes S F (K e) r
    | none => False) := by
  refine propext ?_
  rw [goes_ifP]
  cases x with
  | none => simp
  | some y =>
    obtain ⟨p, e⟩ := y
    simp only [Option.some.injEq, Prod.mk.injEq]
    constructor
    · rintro ⟨p', e', ⟨rfl, rfl⟩, h⟩; exact h
    · intro h; exact ⟨p, e, ⟨rfl, rfl⟩, h⟩
theorem ends_eq {c : Conf} : Ends S F c r = goes S F (step (R S) S.E F c) r := propext ends_iff
theorem go_skip : Ends S F (.run .skip st ks) r = Ends S F (.back st ks) r := by rw [ends_eq]; rfl
theorem go_region {id : Nat} {ops : Array Oper} : Ends S F (.run (.region id ops false) st ks) r = Ends S F (.ops ops ops.toList st ks) r := by rw [ends_eq]; rfl
theorem go_draw {id : Nat} {ops : Array Oper} : Ends S F (.run (.region id ops true) st ks) r = Ends S F (.dops ops 0 ops.toList [] st ks) r := by rw [ends_eq]; rfl
theorem go_seq {a b : Code} : Ends S F (.run (.seq a b) st ks) r = Ends S F (.run a st (.seq b :: ks)) r := by rw [ends_eq]; rfl
theorem go_block {id : Nat} {c : Code} : Ends S F (.run (.block id c) st ks) r = Ends S F (.run c st (.blk id :: ks)) r := by rw [ends_eq]; rfl
theorem go_exit {id : Nat} : Ends S F (.run (.exit id) st ks) r = Ends S F (.exit id st ks) r := by rw [ends_eq]; rfl
theorem go_ret : Ends S F (.run .ret st ks) r = finE (finR S.E F st) r := by
  rw [ends_eq]
  show goes S F (finish S.E F st) r = _
  unfold finish
  rw [goes_ifP']
  rcases finR S.E F st with _ | ⟨p, b⟩ <;> rfl
theorem go_back : Ends S F (.back st []) r = finE (finR S.E F st) r := by
  rw [ends_eq]
  show goes S F (finish S.E F st) r = _
  unfold finish
  rw [goes_ifP']
  rcases finR S.E F st with _ | ⟨p, b⟩ <;> rfl
theorem go_back_seq {c : Code} : Ends S F (.back st (.seq c :: ks)) r = Ends S F (.run c st ks) r := by rw [ends_eq]; rfl
theorem go_back_blk {id : Nat} : Ends S F (.back st (.blk id :: ks)) r = Ends S F (.back st ks) r := by rw [ends_eq]; rfl
theorem enter_eq {c : Code} : goes S F (enter F c st ks) r = entE S F (F.L (loopKey ks)) c st ks r := by
  unfold enter entE
  cases F.L (loopKey ks) with
  | none => rfl
  | some L =>
    simp only [goes_ifP', cutE]
    rcases cutS L st with _ | ⟨p, s⟩ <;> rfl
theorem go_loop {c : Code} : Ends S F (.run (.loop c) st ks) r = entE S F (F.L (loopKey ks)) c st ks r := by rw [ends_eq]; exact enter_eq
theorem go_back_loop {c : Code} : Ends S F (.back st (.loop c :: ks)) r = entE S F (F.L (loopKey ks)) c st ks r := by rw [ends_eq]; exact enter_eq
theorem go_head {c : Code} : Ends S F (.head c st ks) r = Ends S F (.run c st (.loop c :: ks)) r := by rw [ends_eq]; rfl
theorem go_exit_seq {id : Nat} {c : Code} : Ends S F (.exit id st (.seq c :: ks)) r = Ends S F (.exit id st ks) r := by rw [ends_eq]; rfl
theorem go_exit_loop {id : Nat} {c : Code} : Ends S F (.exit id st (.loop c :: ks)) r = Ends S F (.exit id st ks) r := by rw [ends_eq]; rfl
theorem go_exit_blk {id j : Nat} : Ends S F (.exit id st (.blk j :: ks)) r = if j = id then outE S F (F.L (2 * id + 1)) st ks r else Ends S F (.exit id st ks) r := by
  rw [ends_eq]
  show goes S F (if j = id then _ else _) r = _
  by_cases h : j = id
  · simp only [h, if_true]
    unfold outE
    cases F.L (2 * id + 1) with
    | none => rfl
    | some L =>
      simp only [goes_ifP', cutB]
      rcases cutS L st with _ | ⟨p, s⟩ <;> rfl
  · simp only [h, if_false]; rfl
theorem go_cond {c : Operand} {a b : Code} : Ends S F (.run (.cond c a b) st ks) r = condE S F (ev S.E st c) a b st ks r := by
  rw [ends_eq]
  simp only [step, condE]
  cases ev S.E st c with
  | bool t => cases t <;> simp [goes, EndsA]
  | _ => rfl
theorem go_ops_nil : Ends S F (.ops all [] st ks) r = Ends S F (.back st ks) r := by rw [ends_eq]; rfl
theorem go_dops_nil : Ends S F (.dops all i [] log st ks) r = (logOk all log = true ∧ Ends S F (.back st ks) r) := by
  rw [ends_eq]
  simp only [step]
  by_cases h : logOk all log = true
  · simp [h, goes, EndsA]
  · simp [h, goes, EndsA]
theorem go_op' {d : Option Nat} {op : Op} {ty : Nat} {ps : String} {af : Array Edge} (h : nextE S.E st op = none) : Ends S F (.ops all (⟨d, op, ty, ps, af, none⟩ :: l) st ks) r = effE S F (opR (R S) S.E st op) d all l st ks r := by
  rw [ends_eq]
  simp only [step, h, runO, goes_ifP', effE]
  rcases opR (R S) S.E st op with _ | ⟨p, e⟩ <;> rfl
theorem go_op_move {d : Option Nat} {ty : Nat} {ps : String} {af : Array Edge} {x : Operand} : Ends S F (.ops all (⟨d, .move x, ty, ps, af, none⟩ :: l) st ks) r = effE S F (opR (R S) S.E st (.move x)) d all l st ks r := go_op' rfl
theorem go_op_assign {d : Option Nat} {ty : Nat} {ps : String} {af : Array Edge} {x : Operand} : Ends S F (.ops all (⟨d, .assign x, ty, ps, af, none⟩ :: l) st ks) r = effE S F (opR (R S) S.E st (.assign x)) d all l st ks r := go_op' rfl
theorem go_op_pick {d : Option Nat} {ty : Nat} {ps : String} {af : Array Edge} {c x y : Operand} : Ends S F (.ops all (⟨d, .pick c x y, ty, ps, af, none⟩ :: l) st ks) r = effE S F (opR (R S) S.E st (.pick c x y)) d all l st ks r := go_op' rfl
theorem go_op_alloc {d : Option Nat} {ty : Nat} {ps : String} {af : Array Edge} {t : Nat} : Ends S F (.ops all (⟨d, .alloc t, ty, ps, af, none⟩ :: l) st ks) r = effE S F (opR (R S) S.E st (.alloc t)) d all l st ks r := go_op' rfl
theorem go_op_box {d : Option Nat} {ty : Nat} {ps : String} {af : Array Edge} {t : Nat} {x : Operand} : Ends S F (.ops all (⟨d, .box t x, ty, ps, af, none⟩ :: l) st ks) r = effE S F (opR (R S) S.E st (.box t x)) d all l st ks r := go_op' rfl
theorem go_op_build {d : Option Nat} {ty : Nat} {ps : String} {af : Array Edge} {t : Nat} {parts : Array (Nat × Operand)} : Ends S F (.ops all (⟨d, .build t parts, ty, ps, af, none⟩ :: l) st ks) r = effE S F (opR (R S) S.E st (.build t parts)) d all l st ks r := go_op' rfl
theorem go_op_buildSlice {d : Option Nat} {ty : Nat} {ps : String} {af : Array Edge} {t len : Nat} {parts : Array (Nat × Operand)} : Ends S F (.ops all (⟨d, .buildSlice t len parts, ty, ps, af, none⟩ :: l) st ks) r = effE S F (opR (R S) S.E st (.buildSlice t len parts)) d all l st ks r := go_op' rfl
theorem go_op_load {d : Option Nat} {ty : Nat} {ps : String} {af : Array Edge} {t : Nat} {x : Operand} : Ends S F (.ops all (⟨d, .load t x, ty, ps, af, none⟩ :: l) st ks) r = effE S F (opR (R S) S.E st (.load t x)) d all l st ks r := go_op' rfl
theorem go_op_store {d : Option Nat} {ty : Nat} {ps : String} {af : Array Edge} {t : Nat} {x y : Operand} : Ends S F (.ops all (⟨d, .store t x y, ty, ps, af, none⟩ :: l) st ks) r = effE S F (opR (R S) S.E st (.store t x y)) d all l st ks r := go_op' rfl
theorem go_op_nilCheck {d : Option Nat} {ty : Nat} {ps : String} {af : Array Edge} {x : Operand} : Ends S F (.ops all (⟨d, .nilCheck x, ty, ps, af, none⟩ :: l) st ks) r = effE S F (opR (R S) S.E st (.nilCheck x)) d all l st ks r := go_op' rfl
theorem go_op_binOp {d : Option Nat} {ty : Nat} {ps : String} {af : Array Edge} {b : BinOp} {t u : Nat} {x y : Operand} : Ends S F (.ops all (⟨d, .binOp b t x y u, ty, ps, af, none⟩ :: l) st ks) r = effE S F (opR (R S) S.E st (.binOp b t x y u)) d all l st ks r := go_op' rfl
theorem go_op_unOp {d : Option Nat} {ty : Nat} {ps : String} {af : Array Edge} {b : UnOp} {t : Nat} {x : Operand} : Ends S F (.ops all (⟨d, .unOp b t x, ty, ps, af, none⟩ :: l) st ks) r = effE S F (opR (R S) S.E st (.unOp b t x)) d all l st ks r := go_op' rfl
theorem go_op_convert {d : Option Nat} {ty : Nat} {ps : String} {af : Array Edge} {t u : Nat} {x : Operand} : Ends S F (.ops all (⟨d, .convert t u x, ty, ps, af, none⟩ :: l) st ks) r = effE S F (opR (R S) S.E st (.convert t u x)) d all l st ks r := go_op' rfl
theorem go_op_slice {d : Option Nat} {ty : Nat} {ps : String} {af : Array Edge} {t : Nat} {x : Operand} {lo hi mx : Option Operand} : Ends S F (.ops all (⟨d, .slice t x lo hi mx, ty, ps, af, none⟩ :: l) st ks) r = effE S F (opR (R S) S.E st (.slice t x lo hi mx)) d all l st ks r := go_op' rfl
theorem go_op_fieldAddr {d : Option Nat} {ty : Nat} {ps : String} {af : Array Edge} {t k : Nat} {x : Operand} : Ends S F (.ops all (⟨d, .fieldAddr t x k, ty, ps, af, none⟩ :: l) st ks) r = effE S F (opR (R S) S.E st (.fieldAddr t x k)) d all l st ks r := go_op' rfl
theorem go_op_field {d : Option Nat} {ty : Nat} {ps : String} {af : Array Edge} {t k : Nat} {x : Operand} : Ends S F (.ops all (⟨d, .field t x k, ty, ps, af, none⟩ :: l) st ks) r = effE S F (opR (R S) S.E st (.field t x k)) d all l st ks r := go_op' rfl
theorem go_op_indexAddr {d : Option Nat} {ty : Nat} {ps : String} {af : Array Edge} {t : Nat} {x y : Operand} : Ends S F (.ops all (⟨d, .indexAddr t x y, ty, ps, af, none⟩ :: l) st ks) r = effE S F (opR (R S) S.E st (.indexAddr t x y)) d all l st ks r := go_op' rfl
theorem go_op_index {d : Option Nat} {ty : Nat} {ps : String} {af : Array Edge} {t : Nat} {x y : Operand} : Ends S F (.ops all (⟨d, .index t x y, ty, ps, af, none⟩ :: l) st ks) r = effE S F (opR (R S) S.E st (.index t x y)) d all l st ks r := go_op' rfl
theorem go_op_extract {d : Option Nat} {ty : Nat} {ps : String} {af : Array Edge} {k : Nat} {x : Operand} : Ends S F (.ops all (⟨d, .extract x k, ty, ps, af, none⟩ :: l) st ks) r = effE S F (opR (R S) S.E st (.extract x k)) d all l st ks r := go_op' rfl
theorem go_op_makeSlice {d : Option Nat} {ty : Nat} {ps : String} {af : Array Edge} {t : Nat} {x y : Operand} : Ends S F (.ops all (⟨d, .makeSlice t x y, ty, ps, af, none⟩ :: l) st ks) r = effE S F (opR (R S) S.E st (.makeSlice t x y)) d all l st ks r := go_op' rfl
theorem go_op_makeFunc {d : Option Nat} {ty : Nat} {ps : String} {af : Array Edge} {c : Fn} {fs : Array Operand} {cs : Array Operand} : Ends S F (.ops all (⟨d, .makeFunc c fs cs, ty, ps, af, none⟩ :: l) st ks) r = effE S F (opR (R S) S.E st (.makeFunc c fs cs)) d all l st ks r := go_op' rfl
theorem go_op_call {d : Option Nat} {ty : Nat} {ps : String} {af : Array Edge} {c : Call} : Ends S F (.ops all (⟨d, .call c, ty, ps, af, none⟩ :: l) st ks) r = effE S F (opR (R S) S.E st (.call c)) d all l st ks r := go_op' rfl
theorem go_op_makeMap {d : Option Nat} {ty : Nat} {ps : String} {af : Array Edge} {t : Nat} {r0 : Option Operand} : Ends S F (.ops all (⟨d, .makeMap t r0, ty, ps, af, none⟩ :: l) st ks) r = effE S F (opR (R S) S.E st (.makeMap t r0)) d all l st ks r := go_op' rfl
theorem go_op_lookup {d : Option Nat} {ty : Nat} {ps : String} {af : Array Edge} {t : Nat} {x y : Operand} {b : Bool} : Ends S F (.ops all (⟨d, .lookup t x y b, ty, ps, af, none⟩ :: l) st ks) r = effE S F (opR (R S) S.E st (.lookup t x y b)) d all l st ks r := go_op' rfl
theorem go_op_mapUpdate {d : Option Nat} {ty : Nat} {ps : String} {af : Array Edge} {t : Nat} {x y z : Operand} : Ends S F (.ops all (⟨d, .mapUpdate t x y z, ty, ps, af, none⟩ :: l) st ks) r = effE S F (opR (R S) S.E st (.mapUpdate t x y z)) d all l st ks r := go_op' rfl
theorem go_op_range {d : Option Nat} {ty : Nat} {ps : String} {af : Array Edge} {t : Nat} {x : Operand} : Ends S F (.ops all (⟨d, .range t x, ty, ps, af, none⟩ :: l) st ks) r = effE S F (opR (R S) S.E st (.range t x)) d all l st ks r := go_op' rfl
theorem go_op_entry {d : Option Nat} {ty : Nat} {ps : String} {af : Array Edge} {x : Operand} : Ends S F (.ops all (⟨d, .entry x, ty, ps, af, none⟩ :: l) st ks) r = effE S F (opR (R S) S.E st (.entry x)) d all l st ks r := go_op' rfl
def nxtE (S : Sys) (F : Fx) (x : Option (List Eff)) (d : Option Nat) (all : Array Oper) (l : List Oper) (st : St) (ks : List Fr) (r : Ans) : Prop := match x with
  | some es => es ≠ [] ∧ ∀ e ∈ es, Ends S F (.ops all l (st.app d e) ks) r
  | none => False
theorem nxtE_congr {x x' : Option (List Eff)} {d : Option Nat} (h : x = x') : nxtE S F x d all l st ks r = nxtE S F x' d all l st ks r := by rw [h]
attribute [congr] nxtE_congr
theorem go_op_next {d : Option Nat} {ty : Nat} {ps : String} {af : Array Edge} {x : Operand} : Ends S F (.ops all (⟨d, .next x false, ty, ps, af, none⟩ :: l) st ks) r = nxtE S F (nextV st (ev S.E st x)) d all l st ks r := by
  rw [ends_eq]
  have hne : nextE S.E st (.next x false) = nextV st (ev S.E st x) := rfl
  simp only [step, hne]
  cases hv : nextV st (ev S.E st x) with
  | none =>
    simp only [runO, goes_ifP', nxtE]
    rfl
  | some es =>
    simp only [goes, EndsA, nxtE]
    simp
theorem go_dop {d : Option Nat} {op : Op} {ty : Nat} {ps : String} {af : Array Edge} : Ends S F (.dops all i (⟨d, op, ty, ps, af, none⟩ :: l) log st ks) r = effD S F (opR (R S) S.E st op) op d all i l log st ks r := by
  rw [ends_eq]
  simp only [step, runD, goes_ifP', effD]
  rcases opR (R S) S.E st op with _ | ⟨p, e⟩ <;> rfl
theorem go_opg {d : Option Nat} {op : Op} {ty : Nat} {ps : String} {af : Array Edge} {j : Nat} {w : Bool} : Ends S F (.ops all (⟨d, op, ty, ps, af, some (j, w)⟩ :: l) st ks) r = grdE S F (dstAt all j) j w ⟨d, op, ty, ps, af, some (j, w)⟩ all l st ks r := by
  rw [ends_eq]
  simp only [step, grdE, true_and]
  cases hd : dstAt all j with
  | none => rfl
  | some t =>
    simp only [grdV, true_and]
    cases hv : ev S.E st (.tmp t) with
    | bool b =>
      by_cases hbw : b = w
      · simp only [hbw, if_true]
        rw [setT_same (by rw [← hbw]; exact ev_bool hv)]
        simp only [runO, goes_ifP', effE]
        rcases opR (R S) S.E st op with _ | ⟨p, e⟩ <;> rfl
      · have hbw' : b = !w := by cases b <;> cases w <;> simp_all
        simp only [hbw, if_false]
        rw [setT_same (by rw [← hbw']; exact ev_bool hv)]
        rfl
    | _ => rfl
theorem go_dopg {d : Option Nat} {op : Op} {ty : Nat} {ps : String} {af : Array Edge} {j : Nat} {w : Bool} : Ends S F (.dops all i (⟨d, op, ty, ps, af, some (j, w)⟩ :: l) log st ks) r = grdED S F (dstAt all j) j w ⟨d, op, ty, ps, af, some (j, w)⟩ all i l log st ks r := by
  rw [ends_eq]
  simp only [step, grdED, true_and]
  cases hd : dstAt all j with
  | none => rfl
  | some t =>
    simp only [grdVD, true_and]
    cases hv : ev S.E st (.tmp t) with
    | bool b =>
      by_cases hbw : b = w
      · simp only [hbw, if_true]
        rw [setT_same (by rw [← hbw]; exact ev_bool hv)]
        simp only [runD, goes_ifP', effD]
        rcases opR (R S) S.E st op with _ | ⟨p, e⟩ <;> rfl
      · have hbw' : b = !w := by cases b <;> cases w <;> simp_all
        simp only [hbw, if_false]
        rw [setT_same (by rw [← hbw']; exact ev_bool hv)]
        rfl
    | _ => rfl
theorem go_mkSt {c : Code} {ts : List (Nat × PV)} {rs : List PV} : Ends S F (.run c (mkSt ts rs) ks) r = Ends S F (.run c ⟨tempsOf ts, storeFrom 0 rs, rs.length⟩ ks) r := by rw [mkSt_eq]
theorem go_mkSt_back {ts : List (Nat × PV)} {rs : List PV} : Ends S F (.back (mkSt ts rs) ks) r = Ends S F (.back ⟨tempsOf ts, storeFrom 0 rs, rs.length⟩ ks) r := by rw [mkSt_eq]
attribute [go_sem ↓] go_skip go_region go_draw go_seq go_block go_exit go_ret go_back go_back_seq go_back_blk go_loop go_back_loop go_exit_seq go_exit_loop go_exit_blk go_cond go_ops_nil go_dops_nil go_op_move go_op_assign go_op_pick go_op_alloc go_op_box go_op_build go_op_buildSlice go_op_load go_op_store go_op_nilCheck go_op_binOp go_op_unOp go_op_convert go_op_slice go_op_fieldAddr go_op_field go_op_indexAddr go_op_index go_op_extract go_op_makeSlice go_op_makeFunc go_op_call go_op_makeMap go_op_lookup go_op_mapUpdate go_op_range go_op_entry go_op_next go_dop go_opg go_dopg go_mkSt go_mkSt_back
variable {T : Nat → PV} {St' : Nat → Option Root} {N : Nat} {p : Prop} {v : PV} {rem : List Nat} {add : List (Nat × Root)} {nx d : Nat}
@[go_sem] theorem effE_val : effE S F (some (p, ⟨v, [], [], nx⟩)) (some d) all l ⟨T, St', N⟩ ks r = (p ∧ Ends S F (.ops all l ⟨upd T d v, St', nx⟩ ks) r) := rfl
@[go_sem] theorem effE_val0 : effE S F (some (p, ⟨v, [], [], nx⟩)) none all l ⟨T, St', N⟩ ks r = (p ∧ Ends S F (.ops all l ⟨T, St', nx⟩ ks) r) := rfl
@[go_sem low] theorem effE_some : effE S F (some (p, ⟨v, rem, add, nx⟩)) (some d) all l ⟨T, St', N⟩ ks r = (p ∧ Ends S F (.ops all l ⟨upd T d v, applyStore St' rem add, nx⟩ ks) r) := rfl
@[go_sem low] theorem effE_some0 : effE S F (some (p, ⟨v, rem, add, nx⟩)) none all l ⟨T, St', N⟩ ks r = (p ∧ Ends S F (.ops all l ⟨T, applyStore St' rem add, nx⟩ ks) r) := rfl
@[go_sem] theorem effE_none {d : Option Nat} : effE S F none d all l st ks r = False := rfl
@[go_sem] theorem effE_ite {c : Prop} [Decidable c] {x : Option (Prop × Eff)} {d : Option Nat} : effE S F (if c then x else none) d all l st ks r = (c ∧ effE S F x d all l st ks r) := by
  by_cases h : c <;> simp [effE, h]
@[go_sem] theorem effD_val {op : Op} : effD S F (some (p, ⟨v, [], [], nx⟩)) op (some d) all i l log ⟨T, St', N⟩ ks r = (p ∧ Ends S F (.dops all (i + 1) l (addLog i (touchOp S.E ⟨T, St', N⟩ op) [] log) ⟨upd T d v, St', nx⟩ ks) r) := rfl
@[go_sem low] theorem effD_some {op : Op} : effD S F (some (p, ⟨v, rem, add, nx⟩)) op (some d) all i l log ⟨T, St', N⟩ ks r = (p ∧ Ends S F (.dops all (i + 1) l (addLog i (touchOp S.E ⟨T, St', N⟩ op) (wTok (softW S.E ⟨T, St', N⟩ op) (rem ++ add.map (·.1))) log) ⟨upd T d v, applyStore St' rem add, nx⟩ ks) r) := rfl
@[go_sem low] theorem effD_some0 {op : Op} : effD S F (some (p, ⟨v, rem, add, nx⟩)) op none all i l log ⟨T, St', N⟩ ks r = (p ∧ Ends S F (.dops all (i + 1) l (addLog i (touchOp S.E ⟨T, St', N⟩ op) (wTok (softW S.E ⟨T, St', N⟩ op) (rem ++ add.map (·.1))) log) ⟨T, applyStore St' rem add, nx⟩ ks) r) := rfl
@[go_sem] theorem effD_none {op : Op} {d : Option Nat} : effD S F none op d all i l log st ks r = False := rfl
@[go_sem] theorem effD_ite {c : Prop} [Decidable c] {x : Option (Prop × Eff)} {op : Op} {d : Option Nat} : effD S F (if c then x else none) op d all i l log st ks r = (c ∧ effD S F x op d all i l log st ks r) := by
  by_cases h : c <;> simp [effD, h]
theorem skip_some : St.skip ⟨T, St', N⟩ (some d) = ⟨upd T d .void, St', N⟩ := rfl
theorem skip_none : St.skip ⟨T, St', N⟩ none = ⟨T, St', N⟩ := rfl
@[go_sem] theorem grdE_some {t j : Nat} {w : Bool} : grdE S F (some t) j w o all l st ks r = (some t = dstAt all j ∧ grdV S F (ev S.E st (.tmp t)) t j w o all l st ks r) := rfl
@[go_sem] theorem grdED_some {t j : Nat} {w : Bool} : grdED S F (some t) j w o all i l log st ks r = (some t = dstAt all j ∧ grdVD S F (ev S.E st (.tmp t)) t j w o all i l log st ks r) := rfl
variable {dd : Option Nat} {op : Op} {ty : Nat} {ps : String} {af : Array Edge} {gg : Option (Nat × Bool)}
@[go_sem] theorem grdV_tt {t j : Nat} : grdV S F (.bool true) t j true ⟨dd, op, ty, ps, af, gg⟩ all l st ks r = (.bool true = ev S.E st (.tmp t) ∧ effE S F (opR (R S) S.E st op) dd all l st ks r) := by simp [grdV]
@[go_sem] theorem grdV_ff {t j : Nat} : grdV S F (.bool false) t j false ⟨dd, op, ty, ps, af, gg⟩ all l st ks r = (.bool false = ev S.E st (.tmp t) ∧ effE S F (opR (R S) S.E st op) dd all l st ks r) := by simp [grdV]
@[go_sem] theorem grdV_tf {t j : Nat} : grdV S F (.bool true) t j false ⟨some d, op, ty, ps, af, gg⟩ all l ⟨T, St', N⟩ ks r = (.bool true = ev S.E ⟨T, St', N⟩ (.tmp t) ∧ Ends S F (.ops all l ⟨upd T d .void, St', N⟩ ks) r) := by simp [grdV, skip_some]
@[go_sem] theorem grdV_ft {t j : Nat} : grdV S F (.bool false) t j true ⟨some d, op, ty, ps, af, gg⟩ all l ⟨T, St', N⟩ ks r = (.bool false = ev S.E ⟨T, St', N⟩ (.tmp t) ∧ Ends S F (.ops all l ⟨upd T d .void, St', N⟩ ks) r) := by simp [grdV, skip_some]
@[go_sem] theorem grdV_tf0 {t j : Nat} : grdV S F (.bool true) t j false ⟨none, op, ty, ps, af, gg⟩ all l ⟨T, St', N⟩ ks r = (.bool true = ev S.E ⟨T, St', N⟩ (.tmp t) ∧ Ends S F (.ops all l ⟨T, St', N⟩ ks) r) := by simp [grdV, skip_none]
@[go_sem] theorem grdV_ft0 {t j : Nat} : grdV S F (.bool false) t j true ⟨none, op, ty, ps, af, gg⟩ all l ⟨T, St', N⟩ ks r = (.bool false = ev S.E ⟨T, St', N⟩ (.tmp t) ∧ Ends S F (.ops all l ⟨T, St', N⟩ ks) r) := by simp [grdV, skip_none]
@[go_sem] theorem grdV_void {t j : Nat} {w : Bool} : grdV S F .void t j w ⟨some d, op, ty, ps, af, gg⟩ all l ⟨T, St', N⟩ ks r = (.void = ev S.E ⟨T, St', N⟩ (.tmp t) ∧ Ends S F (.ops all l ⟨upd T d .void, St', N⟩ ks) r) := by simp [grdV, skip_some]
@[go_sem] theorem grdV_void0 {t j : Nat} {w : Bool} : grdV S F .void t j w ⟨none, op, ty, ps, af, gg⟩ all l ⟨T, St', N⟩ ks r = (.void = ev S.E ⟨T, St', N⟩ (.tmp t) ∧ Ends S F (.ops all l ⟨T, St', N⟩ ks) r) := by simp [grdV, skip_none]
theorem grdV_sym {t j : Nat} {w b : Bool} : grdV S F (.bool b) t j w ⟨dd, op, ty, ps, af, gg⟩ all l ⟨T, St', N⟩ ks r = (.bool b = ev S.E ⟨T, St', N⟩ (.tmp t) ∧
    (b = true → grdV S F (.bool true) t j w ⟨dd, op, ty, ps, af, gg⟩ all l ⟨upd T t (.bool true), St', N⟩ ks r) ∧ (b = false → grdV S F (.bool false) t j w ⟨dd, op, ty, ps, af, gg⟩ all l ⟨upd T t (.bool false), St', N⟩ ks r)) := by
  refine propext ?_
  by_cases hv : PV.bool b = ev S.E ⟨T, St', N⟩ (.tmp t)
  · have hT : (⟨upd T t (.bool b), St', N⟩ : St) = ⟨T, St', N⟩ := setT_same (st := ⟨T, St', N⟩) (ev_bool hv.symm)
    cases b with
    | true => simp only [hT, true_implies, Bool.true_eq_false, false_implies, and_true]; exact ⟨fun h => ⟨hv, h⟩, fun h => h.2⟩
    | false => simp only [hT, true_implies, Bool.false_eq_true, false_implies, true_and]; exact ⟨fun h => ⟨hv, h⟩, fun h => h.2⟩
  · exact ⟨fun h => absurd h.1 hv, fun h => absurd h.1 hv⟩
@[go_sem] theorem grdVD_tt {t j : Nat} : grdVD S F (.bool true) t j true ⟨dd, op, ty, ps, af, gg⟩ all i l log st ks r = (.bool true = ev S.E st (.tmp t) ∧ effD S F (opR (R S) S.E st op) op dd all i l log st ks r) := by simp [grdVD]
@[go_sem] theorem grdVD_ff {t j : Nat} : grdVD S F (.bool false) t j false ⟨dd, op, ty, ps, af, gg⟩ all i l log st ks r = (.bool false = ev S.E st (.tmp t) ∧ effD S F (opR (R S) S.E st op) op dd all i l log st ks r) := by simp [grdVD]
@[go_sem] theorem grdVD_tf {t j : Nat} : grdVD S F (.bool true) t j false ⟨some d, op, ty, ps, af, gg⟩ all i l log ⟨T, St', N⟩ ks r = (.bool true = ev S.E ⟨T, St', N⟩ (.tmp t) ∧ Ends S F (.dops all (i + 1) l log ⟨upd T d .void, St', N⟩ ks) r) := by simp [grdVD, skip_some]
@[go_sem] theorem grdVD_ft {t j : Nat} : grdVD S F (.bool false) t j true ⟨some d, op, ty, ps, af, gg⟩ all i l log ⟨T, St', N⟩ ks r = (.bool false = ev S.E ⟨T, St', N⟩ (.tmp t) ∧ Ends S F (.dops all (i + 1) l log ⟨upd T d .void, St', N⟩ ks) r) := by simp [grdVD, skip_some]
@[go_sem] theorem grdVD_void {t j : Nat} {w : Bool} : grdVD S F .void t j w ⟨some d, op, ty, ps, af, gg⟩ all i l log ⟨T, St', N⟩ ks r = (.void = ev S.E ⟨T, St', N⟩ (.tmp t) ∧ Ends S F (.dops all (i + 1) l log ⟨upd T d .void, St', N⟩ ks) r) := by simp [grdVD, skip_some]
theorem grdVD_sym {t j : Nat} {w b : Bool} : grdVD S F (.bool b) t j w ⟨dd, op, ty, ps, af, gg⟩ all i l log ⟨T, St', N⟩ ks r = (.bool b = ev S.E ⟨T, St', N⟩ (.tmp t) ∧
    (b = true → grdVD S F (.bool true) t j w ⟨dd, op, ty, ps, af, gg⟩ all i l log ⟨upd T t (.bool true), St', N⟩ ks r) ∧ (b = false → grdVD S F (.bool false) t j w ⟨dd, op, ty, ps, af, gg⟩ all i l log ⟨upd T t (.bool false), St', N⟩ ks r)) := by
  refine propext ?_
  by_cases hv : PV.bool b = ev S.E ⟨T, St', N⟩ (.tmp t)
  · have hT : (⟨upd T t (.bool b), St', N⟩ : St) = ⟨T, St', N⟩ := setT_same (st := ⟨T, St', N⟩) (ev_bool hv.symm)
    cases b with
    | true => simp only [hT, true_implies, Bool.true_eq_false, false_implies, and_true]; exact ⟨fun h => ⟨hv, h⟩, fun h => h.2⟩
    | false => simp only [hT, true_implies, Bool.false_eq_true, false_implies, true_and]; exact ⟨fun h => ⟨hv, h⟩, fun h => h.2⟩
  · exact ⟨fun h => absurd h.1 hv, fun h => absurd h.1 hv⟩
@[go_sem] theorem condE_true {a b : Code} : condE S F (.bool true) a b st ks r = Ends S F (.run a st ks) r := by simp [condE]
@[go_sem] theorem condE_false {a b : Code} : condE S F (.bool false) a b st ks r = Ends S F (.run b st ks) r := by simp [condE]
theorem condE_sym {t : Bool} {a b : Code} : condE S F (.bool t) a b st ks r = ((t = true → Ends S F (.run a st ks) r) ∧ (t = false → Ends S F (.run b st ks) r)) := by cases t <;> simp [condE]
attribute [go_sem low] grdV_sym grdVD_sym condE_sym
@[go_sem] theorem cutE_some {s : St} {c : Code} : cutE S F (some (p, s)) c ks r = (p ∧ Ends S F (.head c s ks) r) := rfl
@[go_sem] theorem cutB_some {s : St} : cutB S F (some (p, s)) ks r = (p ∧ Ends S F (.back s ks) r) := rfl
@[go_sem] theorem entE_some {L : List Nat} {c : Code} : entE S F (some L) c st ks r = cutE S F (cutS L st) c ks r := rfl
@[go_sem] theorem outE_some {L : List Nat} : outE S F (some L) st ks r = cutB S F (cutS L st) ks r := rfl
@[go_sem] theorem outE_none : outE S F none st ks r = Ends S F (.back st ks) r := rfl
@[go_sem] theorem finE_some {b : Ans} : finE (some (p, b)) r = (p ∧ b = r) := rfl
@[go_sem] theorem ans_eq {b b' : List (Option PV)} {v v' : PV} : ((⟨b, v⟩ : Ans) = ⟨b', v'⟩) = (b = b' ∧ v = v') := by simp
end
end Go.Proofs.YtmanllfmgghadaaGreatDoor.PVE
namespace Go.Proofs.YtmanllfmgghadaaGreatDoor.PVE
open PV
section
variable {C : Nat → List PV → Option Ans} {E : Env} {st : St}
@[go_sem] theorem o_move {x : Operand} : opR C E st (.move x) = some (True, ⟨ev E st x, [], [], st.next⟩) := rfl
@[go_sem] theorem o_assign {x : Operand} : opR C E st (.assign x) = some (True, ⟨ev E st x, [], [], st.next⟩) := rfl
def pickE (n : Nat) (c a b : PV) : Option (Prop × Eff) := match c with
  | .bool t => some (True, ⟨if t = true then a else b, [], [], n⟩)
  | _ => none
@[go_sem] theorem o_pick {c x y : Operand} : opR C E st (.pick c x y) = pickE st.next (ev E st c) (ev E st x) (ev E st y) := by
  simp only [opR, eff, pickE]
  cases ev E st c <;> rfl
@[go_sem] theorem pickE_t {n : Nat} {a b : PV} : pickE n (.bool true) a b = some (True, ⟨a, [], [], n⟩) := rfl
@[go_sem] theorem pickE_f {n : Nat} {a b : PV} : pickE n (.bool false) a b = some (True, ⟨b, [], [], n⟩) := rfl
@[go_sem low] theorem pickE_b {n : Nat} {t u v : Bool} : pickE n (.bool t) (.bool u) (.bool v) = some (True, ⟨.bool (bif t then u else v), [], [], n⟩) := by cases t <;> rfl
@[go_sem] theorem newRoot_eq {pv v : PV} {rem : List Nat} : newRoot st pv v rem = if rem.Nodup then some (True, ⟨v, rem, [(st.next, ⟨pv, []⟩)], st.next + 1⟩) else none := rfl
@[go_sem] theorem plainE_eq {v : PV} : plainE st v = some (True, ⟨v, [], [], st.next⟩) := rfl
@[go_sem] theorem o_alloc {t : Nat} : opR C E st (.alloc t) = (match E.T t with
    | some i => newRoot st (.pto i.zero) (.addr st.next 0 0) []
    | none => none) := rfl
@[go_sem] theorem o_box {t : Nat} {x : Operand} : opR C E st (.box t x) = if (boxLinks (ev E st x)).isEmpty then (match inl st.store (ev E st x).cells with
    | some (cs, rem) => newRoot st (.pto cs) (.addr st.next 0 0) rem
    | none => none) else some (True, ⟨.addr st.next 0 0, [], [(st.next, ⟨.pto (ev E st x).cells, boxLinks (ev E st x)⟩)], st.next + 1⟩) := rfl
@[go_sem] theorem o_build {t : Nat} {parts : Array (Nat × Operand)} : opR C E st (.build t parts) = (match E.T t with
    | some ⟨.struct fs, _, _, zero⟩ => (match buildCells E.T fs zero (parts.toList.map fun x => (x.1, ev E st x.2)) with
      | some cs => plainE st (.agg cs)
      | none => none)
    | _ => none) := rfl
@[go_sem] theorem o_buildSlice {t len : Nat} {parts : Array (Nat × Operand)} : opR C E st (.buildSlice t len parts) = (match E.T t with
    | some ⟨.slice e, _, _, _⟩ => (match E.T e with
      | some i => (match inlEs st.store (parts.toList.map fun x => ev E st x.2) with
        | some (es, rem) => if parts.toList.map (·.1) = List.range len ∧ es.all (fun e => e.cells.length == i.size && (match e with | .agg _ => isAggT i | _ => !isAggT i)) = true ∧ len * i.size ≤ 16777216 then newRoot st (.slo i.size es) (.own st.next) rem else none
        | none => none)
      | none => none)
    | _ => none) := rfl
@[go_sem] theorem o_load {t : Nat} {a : Operand} : opR C E st (.load t a) = (match E.T t with
    | some i => loadE st i (ev E st a)
    | none => none) := rfl
@[go_sem] theorem o_store {t : Nat} {a x : Operand} : opR C E st (.store t a x) = (match E.T t with
    | some i => storeE st i (ev E st x) (ev E st a)
    | none => none) := rfl
def nilE (n : Nat) (x : PV) : Option (Prop × Eff) := match x with
  | .pro cs => some (True, ⟨.pro cs, [], [], n⟩)
  | .addr r i o => some (True, ⟨.addr r i o, [], [], n⟩)
  | .fn f cs => some (True, ⟨.fn f cs, [], [], n⟩)
  | _ => none
@[go_sem] theorem o_nilCheck {x : Operand} : opR C E st (.nilCheck x) = nilE st.next (ev E st x) := by
  simp only [opR, eff, nilE]
  cases ev E st x <;> rfl
def binO (n : Nat) (x : Option (Prop × PV)) : Option (Prop × Eff) := match x with
  | some (p, v) => some (p, ⟨v, [], [], n⟩)
  | none => none
@[go_sem] theorem binO_some {n : Nat} {p : Prop} {v : PV} : binO n (some (p, v)) = some (p, ⟨v, [], [], n⟩) := rfl
@[go_sem] theorem o_binOp {op : BinOp} {t u : Nat} {x y : Operand} : opR C E st (.binOp op t x y u) = binO st.next (binE E t op (ev E st x) (ev E st y)) := by
  simp only [opR, eff]
  rcases binE E t op (ev E st x) (ev E st y) with _ | ⟨p, v⟩ <;> rfl
def unE (n : Nat) (op : UnOp) (x : PV) : Option (Prop × Eff) := match op, x with
  | .not, .bool b => some (True, ⟨.bool (!b), [], [], n⟩)
  | .neg, .int k m => some (True, ⟨.int k (k.wrap (0 - m)), [], [], n⟩)
  | _, _ => none
@[go_sem] theorem o_unOp {op : UnOp} {t : Nat} {x : Operand} : opR C E st (.unOp op t x) = unE st.next op (ev E st x) := by
  simp only [opR, eff, unE]
  cases op <;> cases ev E st x <;> rfl
@[go_sem] theorem o_convert {src dst : Nat} {x : Operand} : opR C E st (.convert src dst x) = convE E st src dst (ev E st x) := rfl
@[go_sem] theorem o_slice {t : Nat} {x : Operand} {lo hi : Option Operand} : opR C E st (.slice t x lo hi none) = (match E.T t with
    | some ⟨.str, _, _, _⟩ => sliceStrE st (ev E st x) (lo.map (ev E st)) (hi.map (ev E st))
    | some ⟨.slice el, _, _, _⟩ => (match E.T el with
      | some i => sliceE st i.size (ev E st x) (lo.map (ev E st)) (hi.map (ev E st))
      | none => none)
    | _ => none) := rfl
def faE (n : Nat) (off : Nat) (x : PV) : Option (Prop × Eff) := match x with
  | .pro cs => some (True, ⟨.pro (cs.drop off), [], [], n⟩)
  | .addr r i o => some (True, ⟨.addr r i (o + off), [], [], n⟩)
  | _ => none
@[go_sem] theorem o_fieldAddr {t f : Nat} {x : Operand} : opR C E st (.fieldAddr t x f) = (match E.T t with
    | some ⟨.struct fs, _, _, _⟩ => (match fs[f]? with
      | some (off, _) => faE st.next off (ev E st x)
      | none => none)
    | _ => none) := by
  simp only [opR, eff]
  rcases E.T t with _ | ⟨d, _, _, _⟩
  · rfl
  · cases d <;> rfl
def fldE (n : Nat) (off : Nat) (i : TyI) (x : PV) : Option (Prop × Eff) := match x with
  | .agg cs => if off + i.size ≤ cs.length then (if isAggT i then some (True, ⟨.agg ((cs.drop off).take i.size), [], [], n⟩) else match cs[off]? with
    | some c => some (True, ⟨c, [], [], n⟩)
    | none => none) else none
  | _ => none
@[go_sem] theorem o_field {t f : Nat} {x : Operand} : opR C E st (.field t x f) = (match E.T t with
    | some ⟨.struct fs, _, _, _⟩ => (match fs[f]? with
      | some (off, ft) => (match E.T ft with
        | some i => fldE st.next off i (ev E st x)
        | none => none)
      | none => none)
    | _ => none) := by
  simp only [opR, eff]
  rcases E.T t with _ | ⟨d, _, _, _⟩
  · rfl
  · cases d <;> try rfl
    rename_i fs
    simp only
    rcases fs[f]? with _ | ⟨off, ft⟩
    · rfl
    · simp only [fldE]
      cases E.T ft <;> cases ev E st x <;> rfl
def ixE (s : Nat → Option Root) (nx : Nat) (ti : TyI) (n : Int) (x : PV) : Option (Prop × Eff) := match x with
  | .sl es => match es[n.toNat]? with
    | some e => if e.cells.length = ti.size then some (0 ≤ n, ⟨.pro e.cells, [], [], nx⟩) else none
    | none => none
  | .own r => match s r with
    | some ⟨.slo sz es, _⟩ => match es[n.toNat]? with
      | some _ => if sz = ti.size then some (0 ≤ n, ⟨.addr r n.toNat 0, [], [], nx⟩) else none
      | none => none
    | _ => none
  | .vw r a b => match s r with
    | some ⟨.slo sz _, _⟩ => if sz = ti.size then some (0 ≤ n ∧ n.toNat < b - a, ⟨.addr r (a + n.toNat) 0, [], [], nx⟩) else none
    | _ => none
  | _ => none
@[go_sem] theorem ixE_vw {s : Nat → Option Root} {nx : Nat} {ti : TyI} {n : Int} {r a b : Nat} : ixE s nx ti n (.vw r a b) = (match s r with
    | some ⟨.slo sz _, _⟩ => if sz = ti.size then some (0 ≤ n ∧ n.toNat < b - a, ⟨.addr r (a + n.toNat) 0, [], [], nx⟩) else none
    | _ => none) := rfl
def ownIx (r : Nat) (sz : Nat) (es : List PV) (ti : TyI) (n : Int) (nx : Nat) : Option (Prop × Eff) := match es[n.toNat]? with
  | some _ => if sz = ti.size then some (0 ≤ n, ⟨.addr r n.toNat 0, [], [], nx⟩) else none
  | none => none
@[go_sem] theorem ixE_own {s : Nat → Option Root} {nx : Nat} {ti : TyI} {n : Int} {r : Nat} : ixE s nx ti n (.own r) = (match s r with
    | some ⟨.slo sz es, _⟩ => ownIx r sz es ti n nx
    | _ => none) := rfl
@[go_sem] theorem ixE_lit {s : Nat → Option Root} {nx : Nat} {ti : TyI} {n : Int} {e : PV} {es : List PV} : ixE s nx ti n (.sl (e :: es)) = (match (e :: es)[n.toNat]? with
    | some e => if e.cells.length = ti.size then some (0 ≤ n, ⟨.pro e.cells, [], [], nx⟩) else none
    | none => none) := rfl
section
variable {S : Sys} {F : Fx} {T : Nat → PV} {St' : Nat → Option Root} {N : Nat} {ks : List Fr} {rr : Ans} {all : Array Oper} {lo : List Oper} {i d : Nat} {log : List (Nat × List Nat × List Nat)} {op : Op}
@[go_sem] theorem effE_ownIx {r sz nx : Nat} {es : List PV} {ti : TyI} {n : Int} : effE S F (ownIx r sz es ti n nx) (some d) all lo ⟨T, St', N⟩ ks rr = ((0 ≤ n ∧ n.toNat < es.length ∧ sz = ti.size) ∧ Ends S F (.ops all lo ⟨upd T d (.addr r n.toNat 0), St', nx⟩ ks) rr) := by
  unfold ownIx
  by_cases h : n.toNat < es.length
  · by_cases hs : sz = ti.size
    · simp only [List.getElem?_eq_getElem h, hs, if_true, effE, h, true_and, and_true]; rfl
    · simp [List.getElem?_eq_getElem h, hs, effE]
  · simp [List.getElem?_eq_none (by omega : es.length ≤ n.toNat), effE, h]
@[go_sem] theorem effD_ownIx {r sz nx : Nat} {es : List PV} {ti : TyI} {n : Int} : effD S F (ownIx r sz es ti n nx) op (some d) all i lo log ⟨T, St', N⟩ ks rr = ((0 ≤ n ∧ n.toNat < es.length ∧ sz = ti.size) ∧ Ends S F (.dops all (i + 1) lo (addLog i (touchOp S.E ⟨T, St', N⟩ op) [] log) ⟨upd T d (.addr r n.toNat 0), St', nx⟩ ks) rr) := by
  unfold ownIx
  by_cases h : n.toNat < es.length
  · by_cases hs : sz = ti.size
    · simp only [List.getElem?_eq_getElem h, hs, if_true, effD, h, true_and, and_true]; rfl
    · simp [List.getElem?_eq_getElem h, hs, effD]
  · simp [List.getElem?_eq_none (by omega : es.length ≤ n.toNat), effD, h]
@[go_sem] theorem effE_ixsl {α : Type} [Inhabited α] {f : α → PV} {k : Nat} [Enc f k] {l : List α} {s : Nat → Option Root} {nx b : Nat} {td : TyD} {z : List PV} {n : Int} : effE S F (ixE s nx ⟨td, k, b, z⟩ n (.sl (l.map f))) (some d) all lo ⟨T, St', N⟩ ks rr = ((0 ≤ n ∧ n.toNat < l.length) ∧ Ends S F (.ops all lo ⟨upd T d (.pro (f (l.getD n.toNat default)).cells), St', nx⟩ ks) rr) := by
  unfold ixE
  by_cases h : n.toNat < l.length
  · simp only [List.getElem?_map, List.getElem?_eq_getElem h, Option.map_some, Enc.len, if_true, effE, h, and_true, List.getD_eq_getElem?_getD, Option.getD_some]; rfl
  · simp [List.getElem?_eq_none (by omega : l.length ≤ n.toNat), effE, h]
@[go_sem] theorem effD_ixsl {α : Type} [Inhabited α] {f : α → PV} {k : Nat} [Enc f k] {l : List α} {s : Nat → Option Root} {nx b : Nat} {td : TyD} {z : List PV} {n : Int} : effD S F (ixE s nx ⟨td, k, b, z⟩ n (.sl (l.map f))) op (some d) all i lo log ⟨T, St', N⟩ ks rr = ((0 ≤ n ∧ n.toNat < l.length) ∧ Ends S F (.dops all (i + 1) lo (addLog i (touchOp S.E ⟨T, St', N⟩ op) [] log) ⟨upd T d (.pro (f (l.getD n.toNat default)).cells), St', nx⟩ ks) rr) := by
  unfold ixE
  by_cases h : n.toNat < l.length
  · simp only [List.getElem?_map, List.getElem?_eq_getElem h, Option.map_some, Enc.len, if_true, effD, h, and_true, List.getD_eq_getElem?_getD, Option.getD_some]; rfl
  · simp [List.getElem?_eq_none (by omega : l.length ≤ n.toNat), effD, h]
end
def ixI (s : Nat → Option Root) (nx : Nat) (ti : TyI) (x : PV) (i : PV) : Option (Prop × Eff) := match i with
  | .int _ n => ixE s nx ti n x
  | _ => none
@[go_sem] theorem ixI_int {s : Nat → Option Root} {nx : Nat} {ti : TyI} {x : PV} {k : IntKind} {n : Int} : ixI s nx ti x (.int k n) = ixE s nx ti n x := rfl
@[go_sem] theorem o_indexAddr {t : Nat} {x ix : Operand} : opR C E st (.indexAddr t x ix) = (match E.T t with
    | some ⟨.slice el, _, _, _⟩ => (match E.T el with
      | some ti => ixI st.store st.next ti (ev E st x) (ev E st ix)
      | none => none)
    | _ => none) := by
  simp only [opR, eff]
  rcases E.T t with _ | ⟨d, _, _, _⟩
  · rfl
  · cases d <;> try rfl
    rename_i el
    simp only
    cases E.T el with
    | none => rfl
    | some ti =>
      cases ev E st ix <;> cases ev E st x <;> rfl
def ixS (nx : Nat) (x i : PV) : Option (Prop × Eff) := match i, x with
  | .int _ n, .str s => some (0 ≤ n ∧ n < s.length, ⟨.int .u8 (s.getD n.toNat 0).toNat, [], [], nx⟩)
  | _, _ => none
@[go_sem] theorem ixS_int {nx : Nat} {s : List UInt8} {k : IntKind} {n : Int} : ixS nx (.str s) (.int k n) = some (0 ≤ n ∧ n < s.length, ⟨.int .u8 (s.getD n.toNat 0).toNat, [], [], nx⟩) := rfl
@[go_sem] theorem o_index {t : Nat} {x ix : Operand} : opR C E st (.index t x ix) = (match E.T t with
    | some ⟨.str, _, _, _⟩ => ixS st.next (ev E st x) (ev E st ix)
    | _ => none) := by
  simp only [opR, eff]
  rcases E.T t with _ | ⟨d, _, _, _⟩
  · rfl
  · cases d <;> first | rfl | (simp only [ixS]; cases ev E st ix <;> cases ev E st x <;> rfl)
@[go_sem] theorem o_extract {i : Nat} {x : Operand} : opR C E st (.extract x i) = (match ev E st x with
    | .tup vs => (match vs[i]? with
      | some v => plainE st v
      | none => none)
    | _ => none) := rfl
@[go_sem] theorem o_makeSlice {t : Nat} {l c : Operand} : opR C E st (.makeSlice t l c) = (match E.T t with
    | some ⟨.slice e, _, _, _⟩ => (match E.T e, ev E st l, ev E st c with
      | some i, .int .i64 n, .int .i64 m => some (0 ≤ n ∧ n = m ∧ n.toNat * i.bytes ≤ 140737488355328 ∧ 0 < i.bytes, ⟨.own st.next, [], [(st.next, ⟨.slo i.size (List.replicate n.toNat (zeroElem i)), []⟩)], st.next + 1⟩)
      | _, _, _ => none)
    | _ => none) := rfl
@[go_sem] theorem o_makeFunc {f : Nat} {caps : Array Operand} : opR C E st (.makeFunc (.func f) (List.toArray []) caps) = (match frzCaps st.store (caps.toList.map (ev E st)) with
      | some (cs, l, add) => if (add.map (·.1)).Nodup then some (True, ⟨.fn f cs, l, add, st.next⟩) else none
      | none => none) := rfl
@[go_sem] theorem vals_mf {E : Env} {st : St} {f : Nat} {caps : List Operand} : valsOf E st (.makeFunc (.func f) (List.toArray []) (List.toArray caps)) = caps.map (ev E st) := by
  simp [valsOf, Op.operands]
@[go_sem] theorem o_len {x : Operand} {t : Nat} : opR C E st (.call ⟨.builtin .len, List.toArray [x], List.toArray [t]⟩) = (match E.T t with
    | some ⟨.str, _, _, _⟩ => lenStrE st (ev E st x)
    | some ⟨.slice _, _, _, _⟩ => lenE st (ev E st x)
    | _ => none) := rfl
@[go_sem] theorem o_append {x y : Operand} {t u : Nat} : opR C E st (.call ⟨.builtin .append, List.toArray [x, y], List.toArray [t, u]⟩) = (if t = u then (match E.T t with
    | some ⟨.slice e, _, _, _⟩ => (match E.T e with
      | some ti => appendE st ti (ev E st x) (ev E st y)
      | none => none)
    | _ => none) else none) := rfl
def minE (nx : Nat) (x y : PV) : Option (Prop × Eff) := match x, y with
  | .int k a, .int _ b => some (True, ⟨.int k (if b < a then b else a), [], [], nx⟩)
  | _, _ => none
@[go_sem] theorem minE_int {nx : Nat} {k k' : IntKind} {a b : Int} : minE nx (.int k a) (.int k' b) = some (True, ⟨.int k (if b < a then b else a), [], [], nx⟩) := rfl
@[go_sem] theorem o_min {x y : Operand} {tys : Array Nat} : opR C E st (.call ⟨.builtin .min, List.toArray [x, y], tys⟩) = minE st.next (ev E st x) (ev E st y) := by
  simp only [opR, eff, minE]
  cases ev E st x <;> cases ev E st y <;> rfl
def fnE (C : Nat → List PV → Option Ans) (E : Env) (st : St) (v : PV) (xs : List PV) : Option (Prop × Eff) := match v with
  | .fn g caps => callE C E st g (xs ++ caps)
  | _ => none
@[go_sem] theorem fnE_fn {g : Nat} {caps xs : List PV} : fnE C E st (.fn g caps) xs = callE C E st g (xs ++ caps) := rfl
@[go_sem] theorem o_call {f : Operand} {args : List Operand} {tys : Array Nat} : opR C E st (.call ⟨.value f, List.toArray args, tys⟩) = fnE C E st (ev E st f) (args.map (ev E st)) := rfl
def argE (C : Nat → List PV → Option Ans) (E : Env) (st : St) (f : Nat) (hs : List Nat) (a : Option Args) : Option (Prop × Eff) := match a with
  | none => none
  | some a => retE E st f hs a (C f a.vs)
@[go_sem] theorem o_callE {f : Nat} {xs : List PV} : callE C E st f xs = argE C E st f (hands0 (E.M f).modes xs) (mkArgs st.store (E.M f).modes xs) := by
  unfold callE argE
  cases mkArgs st.store (E.M f).modes xs <;> rfl
@[go_sem] theorem argE_some {f : Nat} {hs : List Nat} {vs : List PV} {ro gone : List Nat} {back : List (Option Bk)} : argE C E st f hs (some ⟨vs, ro, gone, back⟩) = retE E st f hs ⟨vs, ro, gone, back⟩ (C f vs) := rfl
def bkE (E : Env) (st : St) (f : Nat) (hs : List Nat) (vs : List PV) (ro gone : List Nat) (res : PV) (l : Option (List (Nat × Root))) (x : PV × List (Nat × PV)) : Option (Prop × Eff) := match l with
  | none => none
  | some l => some (PV.freeL vs ∧ gone.Nodup ∧ ∀ r ∈ ro, r ∉ gone, ⟨x.1, gone ++ (if (E.M f).al then ro else []), l ++ x.2.map (fun x => (x.1, ⟨x.2, []⟩)) ++ (if (E.M f).al then frzRo st.store hs else []), st.next + x.2.length⟩)
@[go_sem] theorem retE_some {f : Nat} {hs : List Nat} {vs : List PV} {ro gone : List Nat} {back : List (Option Bk)} {bks : List (Option PV)} {res : PV} : retE E st f hs ⟨vs, ro, gone, back⟩ (some ⟨bks, res⟩) = bkE E st f hs vs ro gone res (backs vs back bks) (impF (E.M f).frz res st.next) := by
  simp only [retE, bkE]
  cases backs vs back bks <;> rfl
@[go_sem] theorem bkE_some {f : Nat} {hs : List Nat} {vs : List PV} {ro gone : List Nat} {res v : PV} {l : List (Nat × Root)} {y : List (Nat × PV)} : bkE E st f hs vs ro gone res (some l) (v, y) = some (PV.freeL vs ∧ gone.Nodup ∧ ∀ r ∈ ro, r ∉ gone, ⟨v, gone ++ (if (E.M f).al then ro else []), l ++ y.map (fun x => (x.1, ⟨x.2, []⟩)) ++ (if (E.M f).al then frzRo st.store hs else []), st.next + y.length⟩) := rfl
end
section
variable {E : Env} {t : Nat}
@[go_sem] theorem b_int {op : BinOp} {k : IntKind} {a b : Int} : binE E t op (.int k a) (.int k b) = intBin op k a b := by simp [binE]
@[go_sem] theorem b_str {op : BinOp} {a b : List UInt8} : binE E t op (.str a) (.str b) = strBin op a b := rfl
@[go_sem] theorem b_agg {op : BinOp} {a b : List PV} : binE E t op (.agg a) (.agg b) = (match E.S t with
    | some ks => aggBin op (eqCells ks a b)
    | none => none) := rfl
@[go_sem] theorem b_bool_eql {a b : Bool} : binE E t .eql (.bool a) (.bool b) = (match E.T t with
    | some ⟨.bool, _, _, _⟩ => some (True, .bool (a == b))
    | _ => none) := rfl
@[go_sem] theorem b_bool_neq {a b : Bool} : binE E t .neq (.bool a) (.bool b) = (match E.T t with
    | some ⟨.bool, _, _, _⟩ => some (True, .bool (!(a == b)))
    | _ => none) := rfl
end
theorem wrap_in {x : Int} (h1 : -9223372036854775808 ≤ x) (h2 : x ≤ 9223372036854775807) : IntKind.i64.wrap x = x := IntWalk.i64_in x ⟨h1, by omega⟩
@[go_sem] theorem dec_T {h : Decidable True} : @decide True h = true := by simp
@[go_sem] theorem dec_F {h : Decidable False} : @decide False h = false := by simp
@[go_sem] theorem foldR4 {s : Nat → Option Root} {r : Nat} : foldR s 4 r = (match s r with
    | none => none
    | some ⟨pv, []⟩ => some (pv, [r])
    | some ⟨pv, l :: ls⟩ => (l :: ls).foldlM (fun acc l => match acc.1.cellAt l.1 l.2 with
      | some (.own c) => (foldR s 3 c).map fun x => (acc.1.put l.1 l.2 [x.1], acc.2 ++ x.2)
      | _ => some acc) (pv, [r])) := by
  conv => lhs; unfold foldR
  cases s r with
  | none => rfl
  | some x => obtain ⟨pv, ls⟩ := x; cases ls <;> rfl
@[go_sem] theorem foldR3 {s : Nat → Option Root} {r : Nat} : foldR s 3 r = (match s r with
    | none => none
    | some ⟨pv, []⟩ => some (pv, [r])
    | some ⟨pv, l :: ls⟩ => (l :: ls).foldlM (fun acc l => match acc.1.cellAt l.1 l.2 with
      | some (.own c) => (foldR s 2 c).map fun x => (acc.1.put l.1 l.2 [x.1], acc.2 ++ x.2)
      | _ => some acc) (pv, [r])) := by
  conv => lhs; unfold foldR
  cases s r with
  | none => rfl
  | some x => obtain ⟨pv, ls⟩ := x; cases ls <;> rfl
@[go_sem] theorem foldR2 {s : Nat → Option Root} {r : Nat} : foldR s 2 r = (match s r with
    | none => none
    | some ⟨pv, []⟩ => some (pv, [r])
    | some ⟨pv, l :: ls⟩ => (l :: ls).foldlM (fun acc l => match acc.1.cellAt l.1 l.2 with
      | some (.own c) => (foldR s 1 c).map fun x => (acc.1.put l.1 l.2 [x.1], acc.2 ++ x.2)
      | _ => some acc) (pv, [r])) := by
  conv => lhs; unfold foldR
  cases s r with
  | none => rfl
  | some x => obtain ⟨pv, ls⟩ := x; cases ls <;> rfl
@[go_sem] theorem obind_some {α β : Type} {a : α} {f : α → Option β} : ((some a : Option α) >>= f) = f a := rfl
@[go_sem] theorem obind_none {α β : Type} {f : α → Option β} : ((none : Option α) >>= f) = none := rfl
@[go_sem] theorem opure {α : Type} {a : α} : (pure a : Option α) = some a := rfl
@[go_sem] theorem re_agg {old cs : List PV} {off : Nat} : (PV.agg old).reElem off cs = .agg (PV.putCells old off cs) := rfl
@[go_sem] theorem re_int {k : IntKind} {n : Int} {c : PV} {off : Nat} : (PV.int k n).reElem off [c] = c := rfl
@[go_sem] theorem re_str {s : List UInt8} {c : PV} {off : Nat} : (PV.str s).reElem off [c] = c := rfl
@[go_sem] theorem re_bool {b : Bool} {c : PV} {off : Nat} : (PV.bool b).reElem off [c] = c := rfl
@[go_sem] theorem re_byte {b : UInt8} {c : PV} {off : Nat} : (bytePV b).reElem off [c] = c := rfl
@[go_sem] theorem re_slo {z : Nat} {l : List PV} {c : PV} {off : Nat} : (PV.slo z l).reElem off [c] = c := rfl
@[go_sem] theorem re_sl {l : List PV} {c : PV} {off : Nat} : (PV.sl l).reElem off [c] = c := rfl
@[go_sem] theorem re_own {r : Nat} {c : PV} {off : Nat} : (PV.own r).reElem off [c] = c := rfl
@[go_sem] theorem allLen_nil {k : Nat} : allLen k [] = True := by simp [allLen]
@[go_sem] theorem allLen_cons {k : Nat} {e : PV} {es : List PV} : allLen k (e :: es) = (e.cells.length = k ∧ allLen k es) := by simp [allLen]
@[go_sem] theorem logOk_ro {ops : Array Oper} {log : List (Nat × List Nat × List Nat)} (h : (log.all fun x => x.2.2.isEmpty) = true) : logOk ops log = true := by
  refine List.all_eq_true.2 fun x hx => ?_
  rw [(List.all_eq_true.1 h) x hx]
  rfl
@[go_sem] theorem logOk_nil {ops : Array Oper} : logOk ops [] = true := rfl
@[go_sem] theorem vals_load {E : Env} {st : St} {t : Nat} {x : Operand} : valsOf E st (.load t x) = [ev E st x] := rfl
@[go_sem] theorem vals_box {E : Env} {st : St} {t : Nat} {x : Operand} : valsOf E st (.box t x) = [ev E st x] := rfl
@[go_sem] theorem vals_bs {E : Env} {st : St} {a b : Nat} {ps : List (Nat × Operand)} : valsOf E st (.buildSlice a b (List.toArray ps)) = ps.map fun x => ev E st x.2 := by
  simp [valsOf, Op.operands, Function.comp_def]
@[go_sem] theorem vals_conv {E : Env} {st : St} {a b : Nat} {x : Operand} : valsOf E st (.convert a b x) = [ev E st x] := rfl
@[go_sem] theorem vals_store {E : Env} {st : St} {t : Nat} {x y : Operand} : valsOf E st (.store t x y) = [ev E st x, ev E st y] := rfl
@[go_sem] theorem vals_ixa {E : Env} {st : St} {t : Nat} {x y : Operand} : valsOf E st (.indexAddr t x y) = [ev E st x, ev E st y] := rfl
@[go_sem] theorem vals_callb {E : Env} {st : St} {b : Builtin} {xs : List Operand} {tys : Array Nat} : valsOf E st (.call ⟨.builtin b, List.toArray xs, tys⟩) = xs.map (ev E st) := by
  simp [valsOf, Op.operands, Call.operands]
@[go_sem] theorem vals_call {E : Env} {st : St} {f : Operand} {xs : List Operand} {tys : Array Nat} : valsOf E st (.call ⟨.value f, List.toArray xs, tys⟩) = ev E st f :: xs.map (ev E st) := by
  simp [valsOf, Op.operands, Call.operands]
theorem cells_agg (cs : List PV) : (PV.agg cs).cells = cs := rfl
theorem cells_int (k : IntKind) (i : Int) : (PV.int k i).cells = [.int k i] := rfl
theorem cells_str (s : List UInt8) : (PV.str s).cells = [.str s] := rfl
theorem cells_bool (s : Bool) : (PV.bool s).cells = [.bool s] := rfl
theorem cells_lit (s : Value) : (PV.lit s).cells = [.lit s] := rfl
theorem cells_nil : PV.nilS.cells = [.nilS] := rfl
theorem cells_sl (s : List PV) : (PV.sl s).cells = [.sl s] := rfl
theorem cells_slo (k : Nat) (s : List PV) : (PV.slo k s).cells = [.slo k s] := rfl
theorem cells_own (s : Nat) : (PV.own s).cells = [.own s] := rfl
theorem cells_pro (s : List PV) : (PV.pro s).cells = [.pro s] := rfl
theorem cells_addr (r i o : Nat) : (PV.addr r i o).cells = [.addr r i o] := rfl
theorem cells_fn (f : Nat) (s : List PV) : (PV.fn f s).cells = [.fn f s] := rfl
theorem range_lits : List.range 0 = [] ∧ List.range 1 = [0] ∧ List.range 2 = [0, 1] ∧ List.range 3 = [0, 1, 2] ∧ List.range 4 = [0, 1, 2, 3] ∧ List.range 5 = [0, 1, 2, 3, 4] ∧ List.range 6 = [0, 1, 2, 3, 4, 5] ∧ List.range 14 = [0, 1, 2, 3, 4, 5, 6, 7, 8, 9, 10, 11, 12, 13] := ⟨rfl, rfl, rfl, rfl, rfl, rfl, rfl, rfl⟩
@[go_sem] theorem cast_one : ((1 : Nat) : Int) = 1 := rfl
@[go_sem] theorem cast_two : ((2 : Nat) : Int) = 2 := rfl
@[go_sem] theorem cast_three : ((3 : Nat) : Int) = 3 := rfl
@[go_sem] theorem bif_tt {b c : Bool} : (bif true then b else c) = b := rfl
@[go_sem] theorem bif_ff {b c : Bool} : (bif false then b else c) = c := rfl
attribute [go_sem] nilC ownAt hasNil boxLinks
@[go_sem] theorem addLog_nil {i : Nat} {log : List (Nat × List Nat × List Nat)} : addLog i [] [] log = log := rfl
@[go_sem] theorem addLog_ro {i t : Nat} {T : List Nat} {log : List (Nat × List Nat × List Nat)} : addLog i (t :: T) [] log = (i, t :: T, []) :: log := by simp [addLog]
@[go_sem] theorem wTok_nil {sw : List Nat} : wTok sw [] = [] := rfl
class EncA {α : Type} (f : α → PV) : Prop where
  agg : ∀ a, ∃ cs, f a = .agg cs
@[go_sem] theorem enc_allAgg {α : Type} {f : α → PV} [EncA f] (l : List α) : allAgg (l.map f) = True := by
  refine eq_true fun e he => ?_
  obtain ⟨x, _, rfl⟩ := List.mem_map.1 he
  exact EncA.agg x
@[go_sem] theorem mvR_len {es : List PV} {x y : Nat} : (mvR es x y).length = es.length := mvR_length
@[go_sem] theorem mvR_drop {α : Type} {f : α → PV} (l : List α) (k : Nat) (h : k ≤ l.length) : (mvR (l.map f) 0 k).drop k = (l.drop k).map f := by
  unfold mvR
  rw [List.take_zero, List.nil_append, Nat.sub_zero, List.drop_zero, List.drop_append_of_le_length (by simp; omega), List.drop_of_length_le (by simp; omega), List.nil_append, List.map_drop]
attribute [go_sem] hasK frzRo own1 ownH hands0 appendM storeV storeO storeX storeC isPto hasOwn hasUndef
attribute [go_sem] isAggT loadPro loadE frzCaps storeE zeroElem lenStrE lenE intBin strBin loOf hiOf sliceE sliceStrE convE buildCells sliceEs appendE appendW viewEs andE expVW frz1 frzAll eqCells aggBin nilE unE faE fldE
attribute [go_sem] cells_agg cells_int cells_str cells_bool cells_lit cells_nil cells_sl cells_slo cells_own cells_pro cells_addr cells_fn PV.elem PV.cellAt PV.put PV.setElem PV.putCells PV.strip PV.stripL PV.storable PV.cellOk inl inlE inlEs det roLeaf roL roArg mkArgs ownsOf backC backs imp1 impL imp impF
attribute [go_sem] if_true if_false List.map_cons List.map_nil List.nil_append List.cons_append List.append_nil List.length_cons List.length_nil List.toList_toArray List.take_succ_cons List.take_zero List.take_nil List.drop_succ_cons List.drop_zero List.drop_nil and_true true_and List.nodup_nil List.not_mem_nil not_false_eq_true List.getElem?_toArray List.getElem?_cons_zero List.getElem?_cons_succ List.getElem?_nil List.headD_cons List.headD_nil List.tail_cons List.tail_nil Option.map_some Option.map_none Option.bind_some Option.bind_none List.all_cons List.all_nil Bool.and_true Bool.true_and Bool.or_true Bool.true_or List.set_cons_zero List.set_cons_succ List.isEmpty_nil List.isEmpty_cons Bool.false_eq_true List.length_map List.length_append Option.getD_some Option.getD_none List.nodup_cons List.mem_cons List.filter_nil List.filter_cons eq_self false_implies implies_true List.append_assoc and_self forall_const or_false false_or range_lits beq_self_eq_true forall_eq ne_eq Bool.not_true Bool.not_false Bool.not_not List.getElem?_map Int.toNat_natCast List.getD_cons_zero List.getD_cons_succ List.getD_nil Int.natCast_zero List.length_set List.set_set
attribute [go_sem] PV.free PV.freeL PV.noR PV.noRL PV.ren PV.renL PV.okr PV.okrL exp1 expRV noRB expAll backAll freeB mkRes finR nilTo cutS pairsOf foldAll dedup addH idx hands handsL touchOp softOp isLoad softV softA softW storeless touch loopKey dstAt
attribute [go_sem] PV.bool.injEq PV.int.injEq PV.str.injEq PV.sl.injEq PV.slo.injEq PV.agg.injEq PV.tup.injEq List.cons.injEq Option.some.injEq
attribute [go_sem] Nat.sub_zero Nat.mul_one Nat.zero_add Nat.add_zero Int.add_zero
attribute [go_sem] List.any_cons List.any_nil Bool.or_false Bool.false_or decide_eq_true_eq decide_eq_false_iff_not Bool.and_eq_true Bool.false_and Bool.and_false List.flatMap_cons List.flatMap_nil reach List.foldlM_cons List.foldlM_nil true_implies Bool.true_eq_false not_true_eq_false
end Go.Proofs.YtmanllfmgghadaaGreatDoor.PVE
namespace Go.Proofs.YtmanllfmgghadaaGreatDoor.PVE
open PV
def lookL : List (Nat × List Nat) → Nat → Option (List Nat)
  | [], _ => none
  | (k, v) :: l, n => if n = k then some v else lookL l n
@[go_sem] theorem lookL_nil {n : Nat} : lookL [] n = none := rfl
@[go_sem] theorem lookL_cons {n k : Nat} {v : List Nat} {l : List (Nat × List Nat)} : lookL ((k, v) :: l) n = if n = k then some v else lookL l n := rfl
structure Tab where
  P : Program
  G : Nat → Option (List PV)
  m : List (Nat × CM)
  x : List (Nat × List (Nat × List Nat))
  lib : List (Nat × (List PV → Option Ans))
def Tab.M (t : Tab) (f : Nat) : CM := (t.m.lookup f).getD ⟨[], false, false⟩
def Tab.X (t : Tab) (f : Nat) : List (Nat × List Nat) := (t.x.lookup f).getD []
def Tab.L (t : Tab) (f : Nat) (xs : List PV) : Option Ans := match t.lib.lookup f with
  | some g => g xs
  | none => none
noncomputable def Tab.E (t : Tab) : Env := ⟨tyOf t.P, t.G, t.M, flatS t.P⟩
noncomputable def Tab.S (t : Tab) : Sys := ⟨t.P, t.E, fun f => lookL (t.X f), t.L⟩
@[go_sem] theorem tab_E {t : Tab} : t.S.E = t.E := rfl
def ent (xs : List PV) : St := ⟨ghostFrom (argsFrom 0 (impL xs 0).1) 0 xs (impL xs 0).1, storeFrom 0 ((impL xs 0).2.map (·.2)), (impL xs 0).2.length⟩
@[go_sem ↓] theorem go_ent {S : Sys} {F : Fx} {c : Code} {xs : List PV} {ks : List Fr} {r : Ans} : Ends S F (.run c (ent xs) ks) r = Ends S F (.run c ⟨ghostFrom (argsFrom 0 (impL xs 0).1) 0 xs (impL xs 0).1, storeFrom 0 ((impL xs 0).2.map (·.2)), (impL xs 0).2.length⟩ ks) r := rfl
def isNone {α : Type} : Option α → Bool
  | none => true
  | some _ => false
theorem R_tab {t : Tab} {f n : Nat} {fu : Func} {xs : List PV} {a : Ans} {ts : List ResultVar} {cm : CM} {ns : List Nat} {L : List (Nat × List Nat)} (hl : isNone (t.lib.lookup f) = true) (hf : t.P.funcs[f]? = some fu) (hb : fu.body = some (fu.body.getD .skip)) (hc : fnChk fu (fu.body.getD .skip) = true) (hcm : t.M f = cm) (hX : t.X f = L)
    (hm : cm.modes.length = n) (hn : n ≤ fu.ntmps) (hg : n ≤ gBase) (hts : fu.results.toList = ts) (hns : fu.resultTypes.toList.map (nilSz t.E) = ns)
    (hxs : xs.length = n) (h : Ends t.S ⟨ts, ns, cm, lookL L⟩ (.run (fu.body.getD .skip) (ent xs) []) a) : R t.S f xs = some a := by
  subst hxs hX
  refine R_of (S := t.S) ?_ hf hb hc hcm hm hn hts hns ?_
  · show t.L f xs = none
    unfold Tab.L
    cases hlk : t.lib.lookup f with
    | none => rfl
    | some g => rw [hlk] at hl; cases hl
  · rw [entry_eq hg]
    exact h
theorem tab_sound {t : Tab} (hm : t.P.follows .mixedOrders = true) (hlib : CallOk t.P t.E t.L) {f : Nat} {xs : List PV} {ans : Ans} (h : R t.S f xs = some ans) : PCalls t.P t.G f xs ans.bks ans.res (t.M f).al :=
  R_sound (S := t.S) (tyOk_tyOf t.P) (fun _ _ h => h) hm hlib h
theorem ends_for {S : Sys} {F : Fx} {c : Code} {ks : List Fr} {a : Ans} {σ : Type} (n : Nat) (hn : n ≤ 4611686018427387904) (X : Nat → σ → St) (I : Nat → σ → Prop) (i0 : Nat) (s0 : σ) (hi0 : i0 ≤ n) (h0 : I i0 s0)
    (hs : ∀ i s, i < n → I i s → IntKind.i64.wrap ((i : Int) + 1) = ((i + 1 : Nat) : Int) → (∀ s', I (i + 1) s' → Ends S F (.head c (X (i + 1) s') ks) a) → Ends S F (.run c (X i s) (.loop c :: ks)) a)
    (he : ∀ s, I n s → Ends S F (.run c (X n s) (.loop c :: ks)) a) : Ends S F (.head c (X i0 s0) ks) a := by
  have key : ∀ d i s, d + i = n → I i s → Ends S F (.head c (X i s) ks) a := by
    intro d
    induction d with
    | zero =>
      intro i s hd hI
      obtain rfl : i = n := by omega
      rw [go_head]
      exact he s hI
    | succ d ih =>
      intro i s hd hI
      rw [go_head]
      exact hs i s (by omega) hI (wrap_in (by omega) (by omega)) fun s' hI' => ih (i + 1) s' (by omega) hI'
  exact key (n - i0) i0 s0 (by omega) h0
theorem ends_wh {S : Sys} {F : Fx} {c : Code} {ks : List Fr} {a : Ans} {σ : Type} (μ : σ → Nat) (X : σ → St) (I : σ → Prop) (s0 : σ) (h0 : I s0)
    (hs : ∀ s, I s → (∀ s', μ s' < μ s → I s' → Ends S F (.head c (X s') ks) a) → Ends S F (.run c (X s) (.loop c :: ks)) a) : Ends S F (.head c (X s0) ks) a := by
  have key : ∀ d s, μ s = d → I s → Ends S F (.head c (X s) ks) a := by
    intro d
    induction d using Nat.strongRecOn with
    | _ d ih =>
      intro s hd hI
      rw [go_head]
      exact hs s hI fun s' hlt hI' => ih (μ s') (by omega) s' rfl hI'
  exact key _ s0 rfl h0
theorem drop_get {α : Type} {l : List α} {i : Nat} (h : i < l.length) (d : α) : ∃ x, l[i]? = some x ∧ l.getD i d = x ∧ l.drop i = x :: l.drop (i + 1) :=
  ⟨l[i], List.getElem?_eq_getElem h, by rw [List.getD_eq_getElem?_getD, List.getElem?_eq_getElem h]; rfl, List.drop_eq_getElem_cons h⟩
@[go_sem] theorem map_snoc {α : Type} {f : α → PV} (l : List α) (a : α) : l.map f ++ [f a] = (l ++ [a]).map f := by simp
@[go_sem] theorem map_app {α : Type} {f : α → PV} (l m : List α) : l.map f ++ m.map f = (l ++ m).map f := by simp
@[go_sem] theorem map_setf {α : Type} {f : α → PV} (l : List α) (i : Nat) (a : α) : (l.map f).set i (f a) = (l.set i a).map f := by rw [List.map_set]
@[go_sem] theorem bytes_snoc (l : List UInt8) (c : UInt8) : l.map bytePV ++ [.int .u8 c.toNat] = (l ++ [c]).map bytePV := by simp [bytePV]
@[go_sem] theorem bytes_set (l : List UInt8) (i : Nat) (c : UInt8) : (l.map bytePV).set i (.int .u8 c.toNat) = (l.set i c).map bytePV := by rw [List.map_set]; rfl
@[go_sem] theorem bytes_of (s : List UInt8) : (s.map fun b => PV.int .u8 b.toNat) = s.map bytePV := rfl
@[go_sem] theorem rep_str (n : Nat) (s : List UInt8) : List.replicate n (PV.str s) = (List.replicate n s).map PV.str := by simp
@[go_sem] theorem rep_int (n : Nat) (k : IntKind) (m : Int) : List.replicate n (PV.int k m) = (List.replicate n m).map (PV.int k) := by simp
theorem drop_getD {α : Type} {l : List α} {i : Nat} (h : i < l.length) (d : α) : l.drop i = l.getD i d :: l.drop (i + 1) := by
  rw [List.getD_eq_getElem?_getD, List.getElem?_eq_getElem h]
  exact List.drop_eq_getElem_cons h
attribute [go_sem] Int.ofNat_lt Int.ofNat_le Int.natCast_nonneg Int.natCast_inj Nat.lt_irrefl Nat.le_refl
end Go.Proofs.YtmanllfmgghadaaGreatDoor.PVE
namespace Go.Proofs.YtmanllfmgghadaaGreatDoor.PVE
open PV
def contig (P : Program) : List Field → Nat → Nat → Bool
  | [], o, tot => o == tot
  | f :: fs, o, tot => f.offset == o && contig P fs (o + P.cellsOf f.type) tot
def Ty (P : Program) : Nat → TypeId → PV → Prop
  | 0, _, _ => False
  | n + 1, t, pv => match P.underlying t with
    | some .bool => ∃ b, pv = .bool b
    | some (.int k) => ∃ i, pv = .int k i ∧ (Lit.int k i).wf = true
    | some .string => ∃ s, pv = .str s ∧ s.length ≤ maxLen
    | some (.slice e) => ∃ es, pv = .sl es ∧ es.length ≤ maxLen ∧ ∀ x ∈ es, Ty P n e x
    | some (.struct fs) => ∃ ps : List PV, pv = .agg (ps.flatMap PV.cells) ∧ ps.length = fs.size ∧ ∀ (i : Nat) (f : Field) (p : PV), fs.toList[i]? = some f → ps[i]? = some p → Ty P n f.type p
    | _ => False
section
variable {H : Type} {enc : TypeId × Value → H} {P : Program} {w : World} {R : Nat → Prop} {σ : Nat → Option Hd} {base : Nat} {spare : Nat → Bool} {held : Bool}
def Told (w : World) (R : Nat → Prop) (σ : Nat → Option Hd) (pv : PV) (cs : List Value) : Prop :=
  pv ≠ .undef ∧ Cs w R σ pv.cells cs [] ∧ ∃ v : Value, v.cells.toList = cs ∧ V w R σ pv v []
theorem told_one {pv : PV} {u : Value} (h0 : pv ≠ .undef) (hc : pv.cells = [pv]) (hu : u.oneCell' = true) (hcs : u.cells = #[u]) (hv : V w R σ pv u []) : Told w R σ pv [u] := by
  refine ⟨h0, ?_, u, by rw [hcs], hv⟩
  rw [hc]
  simp only [Cs]
  exact ⟨u, [], [], [], rfl, hu, hv, ⟨rfl, rfl⟩, rfl⟩
theorem contig_le {l : List Field} : ∀ {o tot : Nat}, contig P l o tot = true → o ≤ tot := by
  induction l with
  | nil => intro o tot h; simp only [contig, beq_iff_eq] at h; omega
  | cons f l ih =>
    intro o tot h
    simp only [contig, Bool.and_eq_true] at h
    have := ih h.2
    omega
theorem trod_strs (hR : ∀ b, b < w.heap.size → R b) {t e : TypeId} {fuel : Nat} {cs : List Value} {l : List (List UInt8)} {ps : List MemPlace} (ht : P.underlying t = some (.slice e)) (he : P.underlying e = some .string) (hc : P.cellsOf e = 1)
    (h : DataW.trod enc P w base spare held fuel t cs = some (.slice (l.map fun s => .lit (.string s)) [], ps)) : ∃ v, cs = [v] ∧ v.oneCell' = true ∧ V w R σ (.sl (l.map .str)) v [] := by
  rcases DataW.trod_slice ht h with ⟨rfl, hx⟩ | ⟨a, len, cap, elems, rest, n, _, rfl, hx, hb, hl, hm, hlen, hel, _, _⟩
  · cases hx
  · simp only [Prod.mk.injEq, DataW.slice.injEq] at hx
    obtain ⟨⟨hx, _⟩, _⟩ := hx
    have hll : l.length = len := by
      have := congrArg List.length hx
      simp at this
      omega
    have key : ∀ j, (hj : j < len) → w.cell? (a.add j) = some (.string ⟨(l[j]'(by omega)).toArray⟩) ∧ R (a.add j).block := by
      intro j hj
      have hj' : j < elems.length := by omega
      have h1 := hel j hj
      rw [List.getElem?_eq_getElem hj', Option.bind_eq_some_iff, hc, Nat.mul_one] at h1
      obtain ⟨ci, hci, htr⟩ := h1
      obtain ⟨s, hcs, hxx, _⟩ := DataW.trod_string he htr
      have hy : (elems[j]).1 = .lit (.string (l[j]'(by omega))) := by
        have := congrArg (fun x => x[j]?) hx
        simp only [List.getElem?_map, List.getElem?_eq_getElem hj', Option.map_some] at this
        rw [List.getElem?_eq_getElem (by omega)] at this
        simp only [Option.map_some, Option.some.injEq] at this
        exact this.symm
      rw [hxx] at hy
      simp only [DataW.lit.injEq, Lit.string.injEq] at hy
      refine ⟨?_, hR _ (World.cells?_block hci (by omega))⟩
      obtain ⟨_, c1, c2⟩ := World.cells?_some hci
      have := c2 0 (by omega)
      rw [hcs, add_add', Nat.add_zero] at this
      simp only [List.getElem?_cons_zero] at this
      rw [this, ← hy]
    refine ⟨_, rfl, rfl, ?_⟩
    simp only [V]
    refine ⟨trivial, some a, cap, l.map fun s => .string ⟨s.toArray⟩, 1, by simp [hll], by simp; omega, hm, fun hpos => ⟨a, rfl, ?_, ?_⟩, ?_⟩
    · have hab : (a.add 0).block = a.block := by unfold Addr.add; split <;> rfl
      rw [← hab]
      exact (key 0 (by simpa [hll] using hpos)).2
    · intro i u hu
      rw [List.getElem?_map, Option.map_eq_some_iff] at hu
      obtain ⟨s, hs, rfl⟩ := hu
      obtain ⟨hi, rfl⟩ := List.getElem?_eq_some_iff.1 hs
      exact (key i (by omega)).1
    · clear h hx hll key hel hlen
      induction l with
      | nil => simp [Es]
      | cons s l ih =>
        simp only [List.map_cons, Es]
        refine ⟨.string ⟨s.toArray⟩, l.map fun s => .string ⟨s.toArray⟩, [], [], rfl, rfl, fun u hu => ?_, by simp, by simp [V], ih, rfl⟩
        simp [Value.cells] at hu
        subst hu
        rfl
theorem callOk_of {t : Tab} (h : ∀ p ∈ t.lib, ∀ xs a, p.2 xs = some a → PCalls t.P t.G p.1 xs a.bks a.res (t.M p.1).al) : CallOk t.P t.E t.L := by
  intro f xs a hc
  unfold Tab.L at hc
  cases hl : t.lib.lookup f with
  | none => rw [hl] at hc; cases hc
  | some g =>
    rw [hl] at hc
    have hm : (f, g) ∈ t.lib := by
      generalize t.lib = l at hl
      induction l with
      | nil => cases hl
      | cons p l ih =>
        rw [List.lookup_cons] at hl
        split at hl
        · rename_i hp
          have : f = p.1 := by simpa using hp
          cases hl
          rw [this]
          exact List.mem_cons_self
        · exact List.mem_cons_of_mem _ (ih hl)
    exact h _ hm xs a hc
theorem law_calls {G : Nat → Option (List PV)} {f : Nat} {args : List PV} {bks : List (Option PV)} {al : Bool} {vs : List Value} (hc : PCalls P G f args bks (.bool true) al) (hG : GlobOk G w fun b => b < w.heap.size)
    (ht : Ts w (fun b => b < w.heap.size) (fun _ => none) args vs []) : Calls P f vs.toArray w fun e w' => e = .returned (.bool true) ∧ Go.RowKit.Below w.heap.size w w' := by
  refine (hc.2 w (fun b => b < w.heap.size) vs [] hG ht List.nodup_nil (by simp) (fun b hb => hb)).mono ?_
  rintro e w' ⟨v, R', fr, fb, rfl, r1, r2, r3, r4, r5, r6, r7, r8, r9, r10, r11⟩
  simp only [V] at r1
  obtain ⟨rfl, _⟩ := r1
  exact ⟨rfl, r10, r9.1, r11, r8, fun k hk => r7 k hk (by simp)⟩
end
end Go.Proofs.YtmanllfmgghadaaGreatDoor.PVE
namespace Go.Proofs.YtmanllfmgghadaaGreatDoor.PVE
open PV
def okTy (P : Program) (T : List TypeId) (t : TypeId) : Bool := match P.underlying t with
  | some .bool => true
  | some (.int _) => true
  | some .string => true
  | some (.slice e) => decide (0 < P.cellsOf e) && T.contains e
  | some (.struct fs) => contig P fs.toList 0 (P.cellsOf t) && fs.toList.all fun f => T.contains f.type
  | _ => false
def closedTys (P : Program) (T : List TypeId) : Bool := T.all (okTy P T)
section
variable {H : Type} {enc : TypeId × Value → H} {P : Program} {w : World} {R : Nat → Prop} {σ : Nat → Option Hd} {base : Nat} {spare : Nat → Bool} {held : Bool}
theorem trod_told2 {T : List TypeId} (hT : closedTys P T = true) (hR : ∀ b, b < w.heap.size → R b) : ∀ (m : Nat) (t : TypeId) (cs : List Value) (x : DataW H × List MemPlace), T.contains t = true → DataW.trod enc P w base spare held m t cs = some x →
    ∃ pv, Ty P m t pv ∧ Told w R σ pv cs := by
  intro m
  induction m with
  | zero => intro t cs x _ h; simp [DataW.trod] at h
  | succ m ih =>
    intro t cs x hc0 h
    have hs : okTy P T t = true := List.all_eq_true.1 hT t (List.contains_iff_mem.1 hc0)
    simp only [okTy] at hs
    cases ht : P.underlying t with
    | none => rw [ht] at hs; cases hs
    | some d =>
      rw [ht] at hs
      cases d with
      | bool =>
        obtain ⟨b, rfl, _⟩ := DataW.trod_bool ht h
        exact ⟨.bool b, by simp only [Ty, ht]; exact ⟨b, rfl⟩, told_one (by simp) rfl rfl rfl (by simp [V])⟩
      | int k =>
        obtain ⟨i, rfl, _, hw⟩ := DataW.trod_int ht h
        exact ⟨.int k i, by simp only [Ty, ht]; exact ⟨i, rfl, hw⟩, told_one (by simp) rfl rfl rfl (by simp [V])⟩
      | string =>
        obtain ⟨s, rfl, _, hw⟩ := DataW.trod_string ht h
        exact ⟨.str s.data.toList, by simp only [Ty, ht]; exact ⟨_, rfl, by simpa using hw⟩, told_one (by simp) rfl rfl rfl (by simp [V])⟩
      | slice e =>
        simp only [Bool.and_eq_true, decide_eq_true_eq] at hs
        obtain ⟨hk, hse⟩ := hs
        rcases DataW.trod_slice ht h with ⟨rfl, _⟩ | ⟨a, len, cap, elems, rest, n, hn, rfl, _, hb, hl, hm, hlen, hel, _, _⟩
        · refine ⟨.sl [], by simp only [Ty, ht]; exact ⟨[], rfl, by simp [maxLen], by simp⟩, told_one (by simp) rfl rfl rfl ?_⟩
          simp only [V]
          exact ⟨trivial, none, 0, [], 0, rfl, by simp, by simp, by simp, by simp [Es]⟩
        · obtain rfl : m = n := by omega
          have key : ∀ j, j ≤ len → ∃ (es : List PV) (us : List Value), es.length = j ∧ us.length = j * P.cellsOf e ∧ Es w R σ (P.cellsOf e) es us [] ∧ (∀ i u, us[i]? = some u → w.cell? (a.add i) = some u) ∧ ∀ x ∈ es, Ty P m e x := by
            intro j
            induction j with
            | zero => intro _; exact ⟨[], [], rfl, by simp, by simp [Es], by simp, by simp⟩
            | succ j ihj =>
              intro hj
              obtain ⟨es, us, e1, e2, e3, e4, e5⟩ := ihj (by omega)
              have hj' : j < elems.length := by omega
              have := hel j (by omega)
              rw [List.getElem?_eq_getElem hj', Option.bind_eq_some_iff] at this
              obtain ⟨ci, hci, htr⟩ := this
              obtain ⟨pv, hty, hne, hcs, v, hv, hV⟩ := ih e ci _ hse htr
              obtain ⟨_, c1, c2⟩ := World.cells?_some hci
              refine ⟨es ++ [pv], us ++ ci, by simp [e1], by simp [e2, c1, Nat.add_mul], Es.append.2 ⟨us, ci, [], [], rfl, rfl, e3, ?_⟩, ?_, ?_⟩
              · simp only [Es]
                refine ⟨v, [], [], [], by simp [hv], by rw [← Array.length_toList, hv, c1], fun u hu => ?_, hne, hV, ⟨rfl, rfl⟩, rfl⟩
                exact hcs.one u (by rw [← hv]; simpa using hu)
              · intro i u hu
                by_cases hi : i < us.length
                · rw [List.getElem?_append_left hi] at hu; exact e4 i u hu
                · rw [List.getElem?_append_right (by omega)] at hu
                  have hi2 : i - us.length < ci.length := (List.getElem?_eq_some_iff.1 hu).1
                  have := c2 (i - us.length) (by omega)
                  rw [add_add', hu] at this
                  rw [← this]
                  congr 2
                  omega
              · intro y hy
                rcases List.mem_append.1 hy with hy | hy
                · exact e5 y hy
                · simp only [List.mem_singleton] at hy; subst hy; exact hty
          obtain ⟨es, us, e1, e2, e3, e4, e5⟩ := key len (Nat.le_refl _)
          refine ⟨.sl es, by simp only [Ty, ht]; exact ⟨es, rfl, by omega, e5⟩, told_one (by simp) rfl rfl rfl ?_⟩
          simp only [V]
          refine ⟨trivial, some a, cap, us, P.cellsOf e, by rw [e1], by omega, hm, fun hpos => ⟨a, rfl, ?_, e4⟩, e3⟩
          have h0 : 0 < elems.length := by omega
          have := hel 0 (by omega)
          rw [List.getElem?_eq_getElem h0, Option.bind_eq_some_iff] at this
          obtain ⟨ci, hci, _⟩ := this
          have hblk := World.cells?_block hci hk
          have hab : (a.add (0 * P.cellsOf e)).block = a.block := by unfold Addr.add; split <;> rfl
          rw [hab] at hblk
          exact hR _ hblk
      | struct fs =>
        simp only [Bool.and_eq_true] at hs
        obtain ⟨hcon, hall⟩ := hs
        obtain ⟨xs, n, hn, _, hlen, hxl, hf⟩ := DataW.trod_struct ht h
        obtain rfl : m = n := by omega
        have key : ∀ (l : List Field) (o : Nat) (k : Nat), (∀ i, l[i]? = fs.toList[k + i]?) → contig P l o (P.cellsOf t) = true → o ≤ cs.length → 
            ∃ ps : List PV, ps.length = l.length ∧ Cs w R σ (ps.flatMap PV.cells) (cs.drop o) [] ∧ ∀ (i : Nat) (f : Field) (p : PV), l[i]? = some f → ps[i]? = some p → Ty P m f.type p := by
          intro l
          induction l with
          | nil =>
            intro o k hl hc ho
            simp only [contig, beq_iff_eq] at hc
            refine ⟨[], rfl, ?_, by simp⟩
            rw [List.drop_eq_nil_of_le (by omega)]
            simp [Cs]
          | cons f l ihl =>
            intro o k hl hc ho
            simp only [contig, Bool.and_eq_true, beq_iff_eq] at hc
            obtain ⟨rfl, hc⟩ := hc
            have hfk : fs.toList[k]? = some f := by have := hl 0; simpa using this.symm
            have hmem : f ∈ fs.toList := List.mem_of_getElem? hfk
            have hfa : fs[k]? = some f := by simpa using hfk
            have hk' : k < xs.length := by rw [hxl]; have := (Array.getElem?_eq_some_iff.1 hfa).1; omega
            have htr := hf k f hfa
            rw [List.getElem?_eq_getElem hk'] at htr
            obtain ⟨pv, hty, hne, hcs, v, hv, hV⟩ := ih f.type _ _ (List.all_eq_true.1 hall f hmem) htr
            have hle := contig_le hc
            obtain ⟨ps, p1, p2, p3⟩ := ihl _ (k + 1) (fun i => by have := hl (i + 1); rw [List.getElem?_cons_succ] at this; rw [this]; congr 1; omega) hc (by omega)
            refine ⟨pv :: ps, by simp [p1], ?_, ?_⟩
            · rw [List.flatMap_cons]
              refine Cs.append.2 ⟨(cs.drop f.offset).take (P.cellsOf f.type), cs.drop (f.offset + P.cellsOf f.type), [], [], ?_, rfl, hcs, p2⟩
              rw [← List.drop_drop, List.take_append_drop]
            · intro i f' p' hi hp
              cases i with
              | zero => simp at hi hp; subst hi hp; exact hty
              | succ i => exact p3 i f' p' (by simpa using hi) (by simpa using hp)
        obtain ⟨ps, p1, p2, p3⟩ := key fs.toList 0 0 (fun i => by simp) hcon (Nat.zero_le _)
        rw [List.drop_zero] at p2
        refine ⟨.agg (ps.flatMap PV.cells), by simp only [Ty, ht]; exact ⟨ps, rfl, by simpa using p1, p3⟩, by simp, p2, .agg cs.toArray, by simp [Value.cells], ?_⟩
        simp only [V]
        exact ⟨cs, rfl, p2⟩
      | _ => cases hs
theorem arg_told {T : List TypeId} (hT : closedTys P T = true) (hR : ∀ b, b < w.heap.size → R b) {t : TypeId} {v : Value} {d : DataW H} {ps : List MemPlace} (ht : T.contains t = true)
    (h : DataW.Trod enc P w base spare held t v d ps) : ∃ n pv, Ty P n t pv ∧ Told w R σ pv v.cells.toList := by
  obtain ⟨fuel, h⟩ := h
  obtain ⟨pv, h1, h2⟩ := trod_told2 (R := R) (σ := σ) hT hR _ _ _ _ ht h
  exact ⟨fuel, pv, h1, h2⟩
end
end Go.Proofs.YtmanllfmgghadaaGreatDoor.PVE
