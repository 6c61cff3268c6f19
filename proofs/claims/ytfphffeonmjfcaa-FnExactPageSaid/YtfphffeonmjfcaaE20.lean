/- The PV engine, part 20: the transformer over the code is sound. -/
import Derived.Test.YtfphffeonmjfcaaE19
import Derived.Deep.LoopGhost
set_option linter.unusedVariables false
set_option linter.unusedSimpArgs false
set_option linter.unusedSectionVars false
namespace Go.Proofs.Ytfphffeonmjfcaa.PVE
open PV

section
variable {P : Program} {E : Env} {w0 : World} {R0 : Nat → Prop} {F0 : List Nat} {gh : Nat → Value} {n : Nat} {R : Nat → Prop} {σ : Nat → Option Hd} {fps : Nat → List Nat} {st : St} {a : Act} {w : World}

mutual
theorem V.ren {σ' : Nat → Option Hd} {ρ : Nat → Nat} (hs : ∀ r, σ' r = σ (ρ r)) : ∀ (pv : PV) (v : Value), pv.okr → V w R σ (pv.ren ρ) v [] → V w R σ' pv v []
  | .own r, v, _, h => by simp only [PV.ren, V] at h ⊢; rw [hs]; exact h
  | .addr r i o, v, _, h => by simp only [PV.ren, V] at h ⊢; rw [hs]; exact h
  | .agg cs, v, hk, h => by
    simp only [PV.ren, V] at h ⊢
    obtain ⟨us, h1, h2⟩ := h
    exact ⟨us, h1, Cs.ren hs cs us hk h2⟩
  | .fn f cs, v, hk, h => by
    simp only [PV.ren, V] at h ⊢
    obtain ⟨us, h1, h2, h3⟩ := h
    exact ⟨us, h1, h2, Ts.ren hs cs us hk h3⟩
  | .tup cs, v, hk, h => by
    simp only [PV.ren, V] at h ⊢
    obtain ⟨us, h1, h2⟩ := h
    exact ⟨us, h1, Ts.ren hs cs us hk h2⟩
  | .undef, _, _, h | .void, _, _, h | .bool _, _, _, h | .int _ _, _, _, h | .str _, _, _, h | .lit _, _, _, h | .nilS, _, _, h => by
    simp only [PV.ren, V] at h ⊢ <;> exact h
  | .sl es, v, hk, h => V.free (.sl es) v [] hk h
  | .slo sz es, v, hk, h => V.free (.slo sz es) v [] hk h
  | .pro cs, v, hk, h => V.free (.pro cs) v [] hk h
  | .pto cs, v, hk, h => V.free (.pto cs) v [] hk h
theorem Cs.ren {σ' : Nat → Option Hd} {ρ : Nat → Nat} (hs : ∀ r, σ' r = σ (ρ r)) : ∀ (cs : List PV) (us : List Value), PV.okrL cs → Cs w R σ (PV.renL ρ cs) us [] → Cs w R σ' cs us []
  | [], us, _, h => by simpa only [PV.renL, Cs] using h
  | c :: cs, us, hk, h => by
    simp only [PV.renL, Cs] at h ⊢
    obtain ⟨u, us', f1, f2, rfl, h0, h1, h2, h3⟩ := h
    obtain ⟨rfl, rfl⟩ : f1 = [] ∧ f2 = [] := by simpa using h3.symm
    exact ⟨u, us', [], [], rfl, h0, V.ren hs c u hk.1 h1, Cs.ren hs cs us' hk.2 h2, rfl⟩
theorem Ts.ren {σ' : Nat → Option Hd} {ρ : Nat → Nat} (hs : ∀ r, σ' r = σ (ρ r)) : ∀ (cs : List PV) (us : List Value), PV.okrL cs → Ts w R σ (PV.renL ρ cs) us [] → Ts w R σ' cs us []
  | [], us, _, h => by simpa only [PV.renL, Ts] using h
  | c :: cs, us, hk, h => by
    simp only [PV.renL, Ts] at h ⊢
    obtain ⟨u, us', f1, f2, rfl, h1, h2, h3⟩ := h
    obtain ⟨rfl, rfl⟩ : f1 = [] ∧ f2 = [] := by simpa using h3.symm
    exact ⟨u, us', [], [], rfl, V.ren hs c u hk.1 h1, Ts.ren hs cs us' hk.2 h2, rfl⟩
end

theorem SimT.at {ids : List Nat} : ∀ {ts : List (Nat × PV)}, SimT st ids ts → ∀ t, ((ts.lookup t).getD .undef) = .undef ∨ ∃ pv, ts.lookup t = some pv ∧ pv.okr ∧ st.temps t = pv.ren (fun r => ids.getD r st.next)
  | [], _, t => .inl rfl
  | (k, pv) :: ts, h, t => by
    simp only [SimT] at h
    obtain ⟨h1, h2, h3⟩ := h
    simp only [List.lookup_cons]
    by_cases hk : t = k
    · subst hk
      right
      exact ⟨pv, by simp, h1, h2⟩
    · have : (t == k) = false := by simpa using hk
      rw [this]
      exact SimT.at h3 t

theorem SimR.at : ∀ {ids : List Nat} {rs : List PV}, SimR st ids rs → ids.length = rs.length ∧ ∀ (r : Nat) (pv : PV), rs[r]? = some pv → ∃ id, ids[r]? = some id ∧ st.store id = some ⟨pv, []⟩ ∧ pv.free
  | [], [], _ => ⟨rfl, by simp⟩
  | id :: ids, pv :: rs, h => by
    simp only [SimR] at h
    obtain ⟨h1, h2, h3⟩ := h
    obtain ⟨i1, i2⟩ := SimR.at h3
    refine ⟨by simp [i1], fun r p hr => ?_⟩
    cases r with
    | zero => simp at hr; subst hr; exact ⟨id, rfl, h1, h2⟩
    | succ r => simpa using i2 r p (by simpa using hr)
  | [], _ :: _, h => by simp [SimR] at h
  | _ :: _, [], h => by simp [SimR] at h

theorem sim_sound {ts : List (Nat × PV)} {rs : List PV} (h : RelX E w0 R0 F0 gh n st a w) (hs : Sim st ts rs) : RelX E w0 R0 F0 gh n (mkSt ts rs) a w := by
  obtain ⟨R, σ, fps, h⟩ := h
  obtain ⟨ids, hnd, ht, hr⟩ := hs
  obtain ⟨hlen, hr⟩ := hr.at
  let ρ : Nat → Nat := fun r => ids.getD r st.next
  have hρ : ∀ r, r < rs.length → ids[r]? = some (ρ r) := fun r hr' => by
    have hlt : r < ids.length := by omega
    simp only [ρ, List.getD_eq_getElem?_getD, List.getElem?_eq_getElem hlt, Option.getD_some]
  have hρ2 : ∀ r, rs.length ≤ r → ρ r = st.next := fun r hr' => by
    have hlt : ids.length ≤ r := by omega
    simp only [ρ, List.getD_eq_getElem?_getD, List.getElem?_eq_none hlt, Option.getD_none]
  have hst : ∀ r x, (mkSt ts rs).store r = some x → ∃ pv, rs[r]? = some pv ∧ x = ⟨pv, []⟩ ∧ r < rs.length := by
    intro r x hx
    simp only [mkSt] at hx
    cases hp : rs[r]? with
    | none => simp [hp] at hx
    | some pv =>
      simp only [hp, Option.map_some, Option.some.injEq] at hx
      exact ⟨pv, rfl, hx.symm, (List.getElem?_eq_some_iff.1 hp).1⟩
  have hinj : ∀ r s, r < rs.length → s < rs.length → ρ r = ρ s → r = s := by
    intro r s h1 h2 he
    have e1 := hρ r h1
    have e2 := hρ s h2
    rw [he] at e1
    exact (List.getElem?_inj (show r < ids.length by omega) hnd).1 (e1.trans e2.symm)
  refine ⟨R, fun r => σ (ρ r), fun r => if r < rs.length then fps (ρ r) else [], ?_⟩
  refine ⟨fun t => ?_, fun r x hx => ?_, fun r hx => ?_, fun r => ?_, fun r s hrs b hb => ?_, fun r b hb => ?_, h.Rb, h.R0R, h.keep, h.sz, h.tape, h.os, h.out, fun r hr' => ?_, h.gl, h.nt, h.df⟩
  · simp only [mkSt]
    rcases ht.at t with he | ⟨pv, he, hk, htm⟩
    · rw [he]; simp [V]
    · rw [he]
      simp only [Option.getD_some]
      have := h.tm t
      rw [htm] at this
      exact V.ren (ρ := ρ) (fun _ => rfl) pv _ hk this
  · obtain ⟨pv, h1, rfl, h3⟩ := hst r x hx
    obtain ⟨id, h4, h5, h6⟩ := hr r pv h1
    obtain rfl : id = ρ r := by rw [hρ r h3] at h4; exact (Option.some.inj h4).symm
    obtain ⟨k, k1, k2, k3⟩ := h.rt _ _ h5
    refine ⟨k, k1, ?_, k3⟩
    simp only [h3, if_true]
    exact V.free _ _ _ h6 k2
  · by_cases hlt : r < rs.length
    · simp [mkSt, hlt] at hx
    · simp [hlt]
  · by_cases hlt : r < rs.length
    · simp only [hlt, if_true]; exact h.nd _
    · simp [hlt]
  · by_cases h1 : r < rs.length
    · by_cases h2 : s < rs.length
      · simp only [h1, h2, if_true] at hb ⊢
        exact h.dj _ _ (fun he => hrs (hinj r s h1 h2 he)) b hb
      · simp [h2]
    · simp [h1] at hb
  · by_cases h1 : r < rs.length
    · simp only [h1, if_true] at hb
      exact h.fb _ b hb
    · simp [h1] at hb
  · have : rs.length ≤ r := hr'
    simp only [hρ2 r this]
    refine ⟨(h.fr _ (Nat.le_refl _)).1, ?_⟩
    simp [mkSt, List.getElem?_eq_none this]

def exOf : Ex → Exit
  | .normal => .normal
  | .exit i => .exit i
  | .ret => .ret

theorem pwp_sound (hT : TyOk P E.T) (hm : P.follows .mixedOrders = true) : ∀ (c : Code) (Q : Ex → St → Prop) (Qx : Exit → Act → World → Prop),
    (∀ ex st a w, RelX E w0 R0 F0 gh n st a w → Q ex st → Qx (exOf ex) a w) → ∀ st a w, RelX E w0 R0 F0 gh n st a w → pwp P E n c Q st → c.wp P Qx a w := by
  intro c
  induction c with
  | skip => intro Q Qx hQ st a w h hp; exact wp_skip (hQ .normal st a w h hp)
  | region id ops d =>
    intro Q Qx hQ st a w h hp
    cases d with
    | false => exact wp_region_list (opsP_sound hT (fun st a w hr hq => hQ .normal st a w hr hq) _ _ _ _ h hp)
    | true => exact draw_sound hT hm hp.1 (fun st a w hr hq => hQ .normal st a w hr hq) h hp.2
  | seq x y ihx ihy =>
    intro Q Qx hQ st a w h hp
    refine wp_seq (ihx _ _ ?_ st a w h hp)
    intro ex st a w hr hq
    cases ex with
    | normal =>
      obtain ⟨s', hs', hq⟩ := hq
      refine ihy Q Qx hQ s' a w ?_ hq
      rcases hs' with rfl | ⟨ts, rs, rfl, hsim⟩
      · exact hr
      · exact sim_sound hr hsim
    | exit i => exact hQ (.exit i) st a w hr hq
    | ret => exact hQ .ret st a w hr hq
  | cond c x y ihx ihy =>
    intro Q Qx hQ st a w h hp
    simp only [pwp] at hp
    split at hp
    case h_2 => exact hp.elim
    rename_i t ht
    have hc : a.eval c = .bool t := by
      obtain ⟨R, σ, fps, hr⟩ := h
      have := ev_V hr c
      rw [ht] at this
      simp only [V] at this
      exact this.1
    refine wp_cond hc ?_
    cases t with
    | true => exact ihx Q Qx hQ st a w h (by simpa using hp)
    | false => exact ihy Q Qx hQ st a w h (by simpa using hp)
  | block id c ih =>
    intro Q Qx hQ st a w h hp
    refine wp_block (ih _ _ ?_ st a w h hp)
    intro ex st a w hr hq
    cases ex with
    | normal => exact hQ .normal st a w hr hq
    | exit i =>
      simp only [exOf, Exit.inBlock] at hq ⊢
      split
      · rename_i hi; simp only [hi, if_true] at hq; exact hQ .normal st a w hr hq
      · rename_i hi; simp only [hi, if_false] at hq; exact hQ (.exit i) st a w hr hq
    | ret => exact hQ .ret st a w hr hq
  | loop c ih =>
    intro Q Qx hQ st a w h hp
    obtain ⟨I, μ, ⟨s0, ⟨ts, rs, rfl, hsim⟩, hI⟩, hround⟩ := hp
    refine wp_loop_ghost (fun k a w => ∃ s, RelX E w0 R0 F0 gh n s a w ∧ I s ∧ μ s = k) (μ (mkSt ts rs)) ⟨_, sim_sound h hsim, hI, rfl⟩ ?_
    rintro k a w ⟨s, hr, hI, rfl⟩
    refine ih _ _ ?_ s a w hr (hround s hI)
    intro ex st a w hr hq
    cases ex with
    | normal =>
      obtain ⟨s'', ⟨ts, rs, rfl, hsim⟩, hI', hlt⟩ := hq
      exact ⟨_, hlt, _, sim_sound hr hsim, hI', rfl⟩
    | exit i => exact hQ (.exit i) st a w hr hq
    | ret => exact hQ .ret st a w hr hq
  | exit id => intro Q Qx hQ st a w h hp; exact wp_exit (hQ (.exit id) st a w h hp)
  | ret => intro Q Qx hQ st a w h hp; exact wp_ret (hQ .ret st a w h hp)
  | _ => intro Q Qx hQ st a w h hp; simp only [pwp] at hp

end
end Go.Proofs.Ytfphffeonmjfcaa.PVE
