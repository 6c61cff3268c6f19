/- The PV engine, part 17: a call of a Go function. -/
import Derived.Test.YtanbccpabgcmaaaGreatDoorE16
set_option linter.unusedVariables false
set_option linter.unusedSimpArgs false
set_option linter.unusedSectionVars false
namespace Go.Proofs.YtanbccpabgcmaaaGreatDoor.PVE
open PV

section
variable {P : Program} {E : Env} {w0 : World} {R0 : Nat → Prop} {F0 : List Nat} {gh : Nat → Value} {n : Nat} {Fr : Nat → Prop} {R : Nat → Prop} {σ : Nat → Option Hd} {fps : Nat → List Nat} {st : St} {a : Act} {w : World}

theorem Ts.append : ∀ {cs ds : List PV} {us vs : List Value}, Ts w R σ cs us [] → Ts w R σ ds vs [] → Ts w R σ (cs ++ ds) (us ++ vs) []
  | [], ds, us, vs, h, k => by simp only [Ts] at h; obtain ⟨rfl, _⟩ := h; exact k
  | c :: cs, ds, us, vs, h, k => by
    simp only [List.cons_append, Ts] at h ⊢
    obtain ⟨u, us', f1, f2, rfl, h1, h2, h3⟩ := h
    obtain ⟨rfl, rfl⟩ : f1 = [] ∧ f2 = [] := by simpa using h3.symm
    exact ⟨u, us' ++ vs, [], [], by simp, h1, Ts.append h2 k, rfl⟩

theorem run_callFunc_go {f : Nat} (hf : FnOk P f) (args : Array Value) (w : World) : (callFunc f args).run P w = .ok (.enter f args) w := by
  obtain ⟨fn, h1, h2, h3⟩ := hf
  have h4 : ¬ fn.body = none := by intro hb; simp [hb] at h3
  have h5 : ¬ fn.name = "runtime.NumGoroutine" := by simpa using h2
  simp [callFunc, h1, h4, h5, program, Sem.run]

theorem impF_sound {Rv : Nat → Prop} (frz : Bool) (pv : PV) (v : Value) (f : List Nat) (b : Nat) (σ : Nat → Option Hd) (hf : ∀ r, b ≤ r → r < b + (impF frz pv b).2.length → σ r = none) (hv : V w Rv σ pv v f) :
    ∃ (σ' : Nat → Option Hd) (fpN : Nat → List Nat) (g : List Nat), Le σ σ' ∧ (∀ r, (r < b ∨ b + (impF frz pv b).2.length ≤ r) → σ' r = σ r) ∧ V w (fun x => Rv x ∨ (frz = true ∧ x ∈ f)) σ' (impF frz pv b).1 v [] ∧
      (impF frz pv b).2.map (·.1) = List.range' b (impF frz pv b).2.length ∧ (∀ x ∈ (impF frz pv b).2, frz = false ∧ ∃ k, σ' x.1 = some k ∧ V w (fun x => Rv x ∨ (frz = true ∧ x ∈ f)) σ' x.2 k.hdr (fpN x.1) ∧ RootTy k x.2) ∧
      f.Perm (g ++ ((impF frz pv b).2.map (·.1)).flatMap fpN) := by
  cases frz with
  | true =>
    simp only [impF, if_true]
    refine ⟨σ, fun _ => [], f, Le.refl _, fun _ _ => rfl, ?_, by simp, by simp, by simp⟩
    exact V.mono (R := addR Rv f) (fun x hx => by rcases hx with hx | hx; exact .inl hx; exact .inr ⟨trivial, hx⟩) (Le.refl _) (fun _ _ => rfl) _ _ _ (by simp) (strip_V _ _ _ hv)
  | false =>
    simp only [impF, Bool.false_eq_true, if_false]
    obtain ⟨σ', fpN, g, i1, i2, i3, i4, i5, i6⟩ := imp_sound pv v f b σ (by simpa [impF] using hf) hv
    refine ⟨σ', fpN, g, i1, i2, V.mono (fun x hx => .inl hx) (Le.refl _) (fun _ _ => rfl) _ _ _ (by simp) i3, i4, fun x hx => ?_, i6⟩
    obtain ⟨k, k1, k2, k3⟩ := i5 x hx
    exact ⟨trivial, k, k1, V.mono (fun x hx => .inl hx) (Le.refl _) (fun _ _ => rfl) _ _ _ (fun _ _ => rfl) k2, k3⟩

theorem Bs.mono {w w' : World} {R R' : Nat → Prop} (hR : ∀ b, R b → R' b) : ∀ (us : List Value) (ps : List (Option PV)) (fb : List Nat), Bs w R us ps fb → Bs w R' us ps fb
  | [], [], fb, h => h
  | _ :: us, none :: ps, fb, h => by simp only [Bs] at h ⊢; exact Bs.mono (w' := w') hR us ps fb h
  | u :: us, some p :: ps, fb, h => by
    simp only [Bs] at h ⊢
    obtain ⟨f1, f2, h1, h2, h3⟩ := h
    exact ⟨f1, f2, V.mono hR (Le.refl _) (fun _ _ => rfl) _ _ _ (fun _ _ => rfl) h1, Bs.mono (w' := w') hR us ps f2 h2, h3⟩
  | [], _ :: _, _, h => by simp [Bs] at h
  | _ :: _, [], _, h => by simp [Bs] at h

theorem call_sound {next : Act → World → Prop} {Q : Exit → Act → World → Prop} (h : Rel w0 R0 F0 gh E.G n Fr R σ fps st a w) {o : Oper} (hd : dstOk n o.dst) {fo : Operand} {args : Array Operand} {tys : Array Nat} (ho : o.op = .call ⟨.value fo, args, tys⟩)
    {f : Nat} {caps : List PV} (hfo : ev E st fo = .fn f caps) {K : Eff → Prop} (hc : callP P E st f (args.toList.map (ev E st) ++ caps) K)
    (hFF : ∀ e, K e → ∀ r, st.next ≤ r → r < e.nx → Fr r) (hK : ∀ e w' R' σ' fps' u, K e → Rel w0 R0 F0 gh E.G n (frA Fr st.next e.nx) R' σ' fps' (st.app o.dst e) (a.put o.dst u) w' → next (a.put o.dst u) w') : o.wp P a w next Q := by
  have hV := ev_V h fo
  rw [hfo] at hV
  simp only [V] at hV
  obtain ⟨us, hfv, _, hcaps⟩ := hV
  have hts := Ts.append (evs_Ts h args.toList) hcaps
  unfold callP at hc
  split at hc
  · exact hc.elim
  rename_i A hA
  obtain ⟨⟨c1, c2, c3⟩, bks, res, al, hcall, hc⟩ := hc
  split at hc
  · exact hc.elim
  rename_i l hl
  obtain ⟨fp, m1, m2, m3⟩ := mkArgs_sound h _ _ _ _ hA hts
  have hfpm : ∀ b ∈ fp, ∃ x ∈ A.gone, b ∈ fps x := fun b hb => by
    obtain ⟨x, hx, hbx⟩ := List.mem_flatMap.1 (m2.mem_iff.1 hb); exact ⟨x, hx, hbx⟩
  have hroR : ∀ b, addR R (A.ro.flatMap fps) b → b < w.heap.size := fun b hb => by
    rcases hb with hb | hb
    · exact (h.Rb b hb).1
    · obtain ⟨x, hx, hbx⟩ := List.mem_flatMap.1 hb; exact (h.fb x b hbx).1
  have hrun : (execOp a.eval o).run P w = .ok (.enter f (args.toList.map a.eval ++ us).toArray) w := by
    have hargs : args.map a.eval ++ us.toArray = (args.toList.map a.eval ++ us).toArray := by
      apply Array.ext'; simp
    simp only [execOp, ho, resolve, hfv, Deferred.ofValue, pure_bind, invoke]
    have h0 : (#[] ++ args.map a.eval : Array Value) = args.map a.eval := by simp
    rw [h0, hargs]
    exact run_callFunc_go hcall.1 _ _
  unfold Oper.wp
  rw [hrun, Oper.upon_enter]
  obtain ⟨hfn, hcon⟩ := hcall
  have hfpn : fp.Nodup := m2.nodup_iff.2 (perm_nodup h c2)
  refine Calls.mono (hcon w (addR R (A.ro.flatMap fps)) _ fp (h.gl.mono (fun b hb => .inl hb) (fun _ _ => rfl)) (Ts.free _ _ _ c1 m1) hfpn ?_ hroR) ?_
  · intro b hb
    obtain ⟨x, hx, hbx⟩ := hfpm b hb
    refine ⟨(h.fb x b hbx).1, fun hR => ?_⟩
    rcases hR with hR | hR
    · exact (h.fb x b hbx).2.1 hR
    · obtain ⟨y, hy, hby⟩ := List.mem_flatMap.1 hR
      have hne : y ≠ x := by rintro rfl; exact c3 _ hy hx
      exact h.dj y x hne b hby hbx
  rintro e w' ⟨v, R', fr, fb, rfl, r1, r2, r3, r4, r5, r6, r7, r8, r9, r10, r11⟩
  show next (a.put o.dst v) w'
  -- what comes back
  let Rv : Nat → Prop := fun b => R b ∨ (R' b ∧ (al = false → w.heap.size ≤ b))
  have hbk := backs_sound m3 bks l fb c2 hl (Bs.mono (w' := w') (R' := Rv) (fun b hb => .inr hb) _ _ _ r2)
  obtain ⟨fpB, b1, b2, b3, b4⟩ := hbk
  have hσn : ∀ r, st.next ≤ r → r < st.next + (impF (E.M f).frz res st.next).2.length → σ r = none := fun r hr hr2 => (h.fr r (hFF _ hc r hr hr2)).1
  obtain ⟨σ', fpN, g, i1, i2, i3, i4, i5, i6⟩ := impF_sound (w := w') (Rv := Rv) (E.M f).frz res v fr st.next σ hσn (V.mono (fun b hb => .inr hb) (none_le σ) (fun _ _ => rfl) _ _ _ (fun _ _ => rfl) r1)
  have hlb : ∀ r ∈ l.map (·.1), (∃ k, σ r = some k) ∧ ¬ (st.next ≤ r ∧ r < st.next + (impF (E.M f).frz res st.next).2.length) := by
    intro r hr
    obtain ⟨x, hx, rfl⟩ := List.mem_map.1 hr
    obtain ⟨k, hk, _⟩ := b3 x hx
    exact ⟨⟨k, hk⟩, fun hle => by rw [hσn _ hle.1 hle.2] at hk; cases hk⟩
  have himp : ∀ r ∈ (impF (E.M f).frz res st.next).2.map (·.1), st.next ≤ r ∧ r < st.next + (impF (E.M f).frz res st.next).2.length := by
    intro r hr
    rw [i4] at hr
    simpa using hr
  have hadd : (l ++ (impF (E.M f).frz res st.next).2.map (fun x => (x.1, (⟨x.2, []⟩ : Root)))).map (·.1) = l.map (·.1) ++ (impF (E.M f).frz res st.next).2.map (·.1) := by
    simp
  let fpA : Nat → List Nat := fun r => if r ∈ l.map (·.1) then fpB r else fpN r
  have hA1 : ∀ r ∈ l.map (·.1), fpA r = fpB r := fun r hr => by simp only [fpA, hr, if_true]
  have hA2 : ∀ r ∈ (impF (E.M f).frz res st.next).2.map (·.1), fpA r = fpN r := fun r hr => by
    have : ¬ r ∈ l.map (·.1) := fun hl => (hlb r hl).2 (himp r hr)
    simp only [fpA, this, if_false]
  have hflat : (((l.map (·.1)) ++ (impF (E.M f).frz res st.next).2.map (·.1)).flatMap fpA) = (l.map (·.1)).flatMap fpB ++ ((impF (E.M f).frz res st.next).2.map (·.1)).flatMap fpN := by
    rw [List.flatMap_append, flatMap_same hA1, flatMap_same hA2]
  have hfbm : ∀ r ∈ l.map (·.1), ∀ b ∈ fpB r, b ∈ fb := fun r hr b hb => b4.mem_iff.2 (List.mem_flatMap.2 ⟨r, hr, hb⟩)
  have hfrm : ∀ r ∈ (impF (E.M f).frz res st.next).2.map (·.1), ∀ b ∈ fpN r, b ∈ fr := fun r hr b hb => i6.mem_iff.2 (List.mem_append_right _ (List.mem_flatMap.2 ⟨r, hr, hb⟩))
  have hnodup := List.nodup_append.1 r3
  have hfpF : ∀ b ∈ fp, b ∈ F0 ∨ w0.heap.size ≤ b := fun b hb => by
    obtain ⟨x, _, hbx⟩ := hfpm b hb; exact (h.fb x b hbx).2.2
  have hRfp : ∀ b, R b → b ∉ fp := fun b hR hb => by
    obtain ⟨x, _, hbx⟩ := hfpm b hb; exact (h.fb x b hbx).2.1 hR
  have hRR' : ∀ b, R b → R' b := fun b hb => r5 b (.inl hb)
  refine hK _ w' (fun b => Rv b ∨ ((E.M f).frz = true ∧ b ∈ fr)) σ' _ v hc (h.change (e := ⟨_, _, _, _⟩) hd fpA ?_ (fun b hb => .inl (.inl hb)) ?_ i1 (fun b hb => r7 b (h.Rb b hb).1 (hRfp b hb)) ?_ ?_ ?_ ?_ ?_ r8 r9 r10 r11 ?_ ?_ i3)
  · rw [hadd, i4, List.nodup_append]
    refine ⟨b1, List.nodup_range', fun x hx y hy hxy => ?_⟩
    subst hxy
    exact (hlb x hx).2 (by simpa using hy)
  · intro b hb
    rcases hb with (hb | ⟨hb, hal⟩) | ⟨_, hb⟩
    · exact ⟨Nat.lt_of_lt_of_le (h.Rb b hb).1 r8, .inl hb⟩
    · obtain ⟨k1, k2⟩ := r6 b hb
      refine ⟨k1, ?_⟩
      rcases k2 with (k2 | k2) | k2 | k2
      · exact .inl k2
      · cases al with
        | true =>
          obtain ⟨y, hy, hby⟩ := List.mem_flatMap.1 k2
          exact .inr (.inl ⟨y, by simp [hy], hby⟩)
        | false => exact .inr (.inr (hal rfl))
      · obtain ⟨x, hx, hbx⟩ := hfpm b k2
        exact .inr (.inl ⟨x, by simp [hx], hbx⟩)
      · exact .inr (.inr k2)
    · obtain ⟨k1, k2, k3⟩ := r4 b (by simp [hb])
      refine ⟨k1, ?_⟩
      rcases k3 with k3 | k3
      · obtain ⟨x, hx, hbx⟩ := hfpm b k3
        exact .inr (.inl ⟨x, by simp [hx], hbx⟩)
      · exact .inr (.inr k3)
  · intro r hr hr' b hb
    refine r7 b (h.fb r b hb).1 fun hbf => ?_
    obtain ⟨x, hx, hbx⟩ := hfpm b hbf
    have hne : r ≠ x := by rintro rfl; exact hr (by simp [hx])
    exact h.dj r x hne b hb hbx
  · intro r x hx
    rcases List.mem_append.1 hx with hx | hx
    · obtain ⟨k, k1, k2, k3⟩ := b3 _ hx
      have hm : r ∈ l.map (·.1) := List.mem_map_of_mem (f := (·.1)) hx
      refine ⟨k, i1 _ _ k1, ?_, k3⟩
      rw [hA1 r hm]
      exact V.mono (fun b hb => .inl hb) (none_le σ') (fun _ _ => rfl) _ _ _ (fun _ _ => rfl) k2
    · obtain ⟨y, hy, hyx⟩ := List.mem_map.1 hx
      simp only [Prod.mk.injEq] at hyx
      obtain ⟨rfl, rfl⟩ := hyx
      obtain ⟨_, k, k1, k2, k3⟩ := i5 y hy
      refine ⟨k, k1, ?_, k3⟩
      rw [hA2 y.1 (List.mem_map_of_mem hy)]
      exact k2
  · rw [hadd, hflat]
    have hp : (fr ++ fb).Perm (g ++ ((l.map (·.1)).flatMap fpB ++ ((impF (E.M f).frz res st.next).2.map (·.1)).flatMap fpN)) := by
      refine (i6.append b4).trans ?_
      rw [List.append_assoc]
      exact List.Perm.append_left _ List.perm_append_comm
    exact (List.nodup_append.1 (hp.nodup_iff.1 r3)).2.1
  · intro r hr b hb
    rw [hadd] at hr
    rcases List.mem_append.1 hr with hr | hr
    · rw [hA1 r hr] at hb
      have hbb := hfbm r hr b hb
      obtain ⟨k1, k2, k3⟩ := r4 b (by simp [hbb])
      refine ⟨k1, ?_, ?_⟩
      · rintro ((hb' | hb') | hb')
        · exact k2 (hRR' b hb')
        · exact k2 hb'.1
        · exact hnodup.2.2 b hb'.2 b hbb rfl
      · rcases k3 with k3 | k3
        · obtain ⟨x, hx, hbx⟩ := hfpm b k3
          exact .inl ⟨x, by simp [hx], hbx⟩
        · exact .inr k3
    · obtain ⟨y, hy, rfl⟩ := List.mem_map.1 hr
      obtain ⟨hfrz, _⟩ := i5 y hy
      rw [hA2 _ hr] at hb
      have hbb := hfrm _ hr b hb
      obtain ⟨k1, k2, k3⟩ := r4 b (by simp [hbb])
      refine ⟨k1, ?_, ?_⟩
      · rintro ((hb' | hb') | hb')
        · exact k2 (hRR' b hb')
        · exact k2 hb'.1
        · rw [hfrz] at hb'; exact absurd hb'.1 (by simp)
      · rcases k3 with k3 | k3
        · obtain ⟨x, hx, hbx⟩ := hfpm b k3
          exact .inl ⟨x, by simp [hx], hbx⟩
        · exact .inr k3
  · intro b hb hbF
    refine r7 b (Nat.lt_of_lt_of_le hb h.sz) fun hbf => ?_
    rcases hfpF b hbf with k | k
    · exact hbF k
    · omega
  · intro r hr
    have h2 := hr.2
    simp only [not_and, Nat.not_lt] at h2
    rw [i2 r (by omega)]
    exact (h.fr r hr.1).1
  · intro r hr
    rw [hadd] at hr
    rcases List.mem_append.1 hr with hr | hr
    · exact .inl (hlb r hr).1
    · exact .inr (himp r hr)

end
end Go.Proofs.YtanbccpabgcmaaaGreatDoor.PVE
