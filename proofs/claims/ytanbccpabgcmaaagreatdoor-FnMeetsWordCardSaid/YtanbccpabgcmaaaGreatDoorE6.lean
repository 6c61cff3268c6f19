/- The PV engine, part 6: roots that are new, folded, frozen. -/
import Derived.Test.YtanbccpabgcmaaaGreatDoorE5
set_option linter.unusedVariables false
set_option linter.unusedSimpArgs false
set_option linter.unusedSectionVars false
namespace Go.Proofs.YtanbccpabgcmaaaGreatDoor.PVE
open PV

theorem add_block (a : Addr) (n : Nat) : (a.add n).block = a.block := by unfold Addr.add; split <;> rfl
theorem add_add' (a : Addr) (i j : Nat) : (a.add i).add j = a.add (i + j) := by
  unfold Addr.add
  by_cases hi : i = 0
  · simp [hi]
  · by_cases hj : j = 0
    · simp [hj]
    · have : ¬ (i + j = 0) := by omega
      simp [hi, hj, Nat.add_assoc]
theorem add_lit' (b o n : Nat) : (⟨b, o, none⟩ : Addr).add n = ⟨b, o + n, none⟩ := by unfold Addr.add; split <;> simp_all

section
variable {P : Program} {E : Env} {w0 : World} {R0 : Nat → Prop} {F0 : List Nat} {gh : Nat → Value} {G : Nat → Option (List PV)} {n : Nat} {Fr : Nat → Prop} {R : Nat → Prop} {σ : Nat → Option Hd} {fps : Nat → List Nat} {st : St} {a : Act} {w : World}

theorem Le_new (h : Rel w0 R0 F0 gh G n Fr R σ fps st a w) (hF : Fr st.next) (x : Option Hd) : Le σ (upd σ st.next x) := by
  intro r k hr
  have : r ≠ st.next := by rintro rfl; rw [(h.fr _ hF).1] at hr; cases hr
  rw [upd_other _ _ _ this]; exact hr

/-- Behind a step that leaves alone all blocks but those of the roots in 'rem' there is one root more, and those are gone. -/
theorem Rel.root (h : Rel w0 R0 F0 gh G n Fr R σ fps st a w) (hF : Fr st.next) {w' : World} {dst : Option Nat} (hd : dstOk n dst) {pv : PV} {links : List (Nat × Nat)} {val : PV} {u : Value} {rem : List Nat} {hd' : Hd} {f : List Nat}
    (hsame : ∀ b, b < w.heap.size → (∀ x ∈ rem, b ∉ fps x) → w'.heap[b]? = w.heap[b]?)
    (hsz : w.heap.size ≤ w'.heap.size) (htape : w'.tape = w.tape) (hos : w'.os = w.os) (hout : w'.output = w.output)
    (hV : V w' R (upd σ st.next (some hd')) pv hd'.hdr f) (hty : RootTy hd' pv) (hf : f.Nodup)
    (hfb : ∀ b ∈ f, (∃ x ∈ rem, b ∈ fps x) ∨ (w.heap.size ≤ b ∧ b < w'.heap.size))
    (hval : V w' R (upd σ st.next (some hd')) val u []) :
    ∃ fps', Rel w0 R0 F0 gh G n (frA Fr st.next (st.next + 1)) R (upd σ st.next (some hd')) fps' (st.app dst ⟨val, rem, [(st.next, ⟨pv, links⟩)], st.next + 1⟩) (a.put dst u) w' := by
  refine ⟨_, h.change (e := ⟨val, rem, [(st.next, ⟨pv, links⟩)], st.next + 1⟩) hd (fun _ => f) (by simp) (fun _ hb => hb) (fun b hb => ⟨Nat.lt_of_lt_of_le (h.Rb b hb).1 hsz, .inl hb⟩) (Le_new h hF _) ?_ ?_ ?_ ?_ ?_ ?_ hsz htape hos hout ?_ (by simp) hval⟩
  · intro b hb
    exact hsame b (h.Rb b hb).1 fun x _ hx => (h.fb x b hx).2.1 hb
  · intro r hr _ b hb
    exact hsame b (h.fb r b hb).1 fun x hx hbx => h.dj r x (by rintro rfl; exact hr hx) b hb hbx
  · intro r x hx
    simp only [List.mem_singleton, Prod.mk.injEq] at hx
    obtain ⟨rfl, rfl⟩ := hx
    exact ⟨hd', upd_same _ _ _, hV, hty⟩
  · simpa using hf
  · intro r hr b hb
    rcases hfb b hb with ⟨x, hx, hbx⟩ | ⟨h1, h2⟩
    · obtain ⟨k1, k2, _⟩ := h.fb x b hbx
      exact ⟨Nat.lt_of_lt_of_le k1 hsz, k2, .inl ⟨x, by simp [hx], hbx⟩⟩
    · exact ⟨h2, fun hb => by have := (h.Rb b hb).1; omega, .inr h1⟩
  · intro b h1 h2
    refine hsame b (Nat.lt_of_lt_of_le h1 h.sz) fun x _ hx => ?_
    rcases (h.fb x b hx).2.2 with h3 | h3
    · exact h2 h3
    · omega
  · intro r hr
    have : r ≠ st.next := by rintro rfl; exact hr.2 ⟨Nat.le_refl _, Nat.lt_succ_self _⟩
    rw [upd_other _ _ _ this]
    exact (h.fr r hr.1).1

theorem putAt_self {l vs : List Value} {k : Nat} (h : ∀ j, j < vs.length → l[k + j]? = vs[j]?) : putAt l k vs = l := by
  unfold putAt
  have e : vs = (l.drop k).take vs.length := by
    apply List.ext_getElem?
    intro j
    by_cases hj : j < vs.length
    · rw [List.getElem?_take_of_lt hj, List.getElem?_drop, h j hj]
    · rw [List.getElem?_eq_none (by omega), List.getElem?_eq_none (by simp; omega)]
  conv => lhs; rw [e]
  rw [List.append_assoc]
  by_cases hl : k + vs.length ≤ l.length
  · rw [show ((l.drop k).take vs.length).length = vs.length by simp; omega, ← List.drop_drop, List.take_append_drop, List.take_append_drop]
  · have h1 : (l.drop k).take vs.length = l.drop k := List.take_of_length_le (by simp; omega)
    rw [h1, show l.drop (k + (l.drop k).length) = [] from List.drop_eq_nil_of_le (by simp; omega)]
    simp

theorem RootTy.undef {h : Hd} {pv : PV} (ht : RootTy h pv) : pv ≠ .undef := by rintro rfl; exact ht

/-- A root as a whole. -/
theorem fold_sound (h : Rel w0 R0 F0 gh G n Fr R σ fps st a w) : ∀ (m r : Nat) (pv : PV) (l : List Nat), foldR st.store m r = some (pv, l) →
    ∃ k f, σ r = some k ∧ V w R σ pv k.hdr f ∧ RootTy k pv ∧ f.Perm (l.flatMap fps)
  | 0, r, pv, l, he => by simp [foldR] at he
  | m + 1, r, pv, l, he => by
    simp only [foldR] at he
    cases hs : st.store r with
    | none => simp [hs] at he
    | some rt =>
      simp only [hs] at he
      obtain ⟨k, hk, hV, hty⟩ := h.rt r rt hs
      have main : ∀ (ls : List (Nat × Nat)) (acc : PV × List Nat) (f : List Nat), V w R σ acc.1 k.hdr f → RootTy k acc.1 → f.Perm (acc.2.flatMap fps) →
          ls.foldlM (fun acc l => match acc.1.cellAt l.1 l.2 with
            | some (.own c) => (foldR st.store m c).map fun x => (acc.1.put l.1 l.2 [x.1], acc.2 ++ x.2)
            | _ => some acc) acc = some (pv, l) → ∃ f, V w R σ pv k.hdr f ∧ RootTy k pv ∧ f.Perm (l.flatMap fps) := by
        intro ls
        induction ls with
        | nil =>
          intro acc f h1 h2 h3 he
          simp only [List.foldlM_nil, Option.pure_def, Option.some.injEq] at he
          subst he
          exact ⟨f, h1, h2, h3⟩
        | cons x ls ih =>
          intro acc f h1 h2 h3 he
          rw [List.foldlM_cons] at he
          by_cases hc : ∃ c, acc.1.cellAt x.1 x.2 = some (.own c)
          · obtain ⟨c, hc⟩ := hc
            simp only [hc] at he
            cases hf : foldR st.store m c with
            | none => simp [hf] at he
            | some y =>
              obtain ⟨pc, lc⟩ := y
              simp only [hf, Option.map_some, Option.bind_eq_bind, Option.bind_some] at he
              obtain ⟨kc, fc, hkc, hVc, htc, hpc⟩ := fold_sound h m c pc lc hf
              unfold PV.cellAt at hc
              cases he' : acc.1.elem x.1 with
              | none => simp [he'] at hc
              | some e =>
                simp only [he'] at hc
                have hlen : x.2 + 1 ≤ e.cells.length := by
                  have := (List.getElem?_eq_some_iff.1 hc).1; omega
                obtain ⟨b, cur, et, lo, hi, f1, f0, f2, old, hblk, hg, hmark, hsz, hol, rfl, hold, hcur, _, hput⟩ := focus h1 h2 he' hlen (Nat.succ_pos 0)
                have hone : (e.cells.drop x.2).take 1 = [.own c] := by
                  rw [List.take_one, List.head?_drop, hc]; rfl
                rw [hone] at hold
                simp only [Cs, V] at hold
                obtain ⟨u, _, fa, _, rfl, ho, ⟨rfl, kc', hkc', rfl, ho'⟩, ⟨rfl, rfl⟩, rfl⟩ := hold
                obtain rfl : kc = kc' := by rw [hkc] at hkc'; exact Option.some.inj hkc'
                have hV' := hput (w' := w) (R' := R) (σ' := σ) (cs' := [pc]) (us' := [kc.hdr]) (f' := fc) (fun _ h => h) (Le.refl _) (fun _ _ => rfl) (fun _ _ => rfl)
                  (by rw [putAt_self (by intro j hj; rw [Array.getElem?_toList]; exact hcur j (by simpa using hj))]; simpa using hg)
                  (by simp only [Cs]; exact ⟨kc.hdr, [], fc, [], rfl, ho, hVc, ⟨rfl, rfl⟩, by simp⟩) rfl (.inr (by simpa using htc.undef))
                refine ih _ _ hV' (put_ty h2 _ _) ?_ he
                rw [List.flatMap_append]
                have e1 : (b :: f1 ++ fc ++ f2).Perm ((b :: f1 ++ ([] ++ []) ++ f2) ++ fc) := by
                  simp only [List.append_nil, List.append_assoc, List.cons_append]
                  exact List.Perm.cons _ (List.Perm.append_left _ List.perm_append_comm)
                exact e1.trans (h3.append hpc)
          · have he2 : (match acc.1.cellAt x.1 x.2 with
              | some (.own c) => (foldR st.store m c).map fun y => (acc.1.put x.1 x.2 [y.1], acc.2 ++ y.2)
              | _ => some acc) = some acc := by
              split
              · rename_i c hh; exact absurd ⟨c, hh⟩ hc
              · rfl
            simp only [he2, Option.bind_eq_bind, Option.bind_some] at he
            exact ih _ _ h1 h2 h3 he
      obtain ⟨f, h1, h2, h3⟩ := main rt.links (rt.pv, [r]) (fps r) hV hty (by simp) he
      exact ⟨k, f, hk, h1, h2, h3⟩

theorem perm_nodup (h : Rel w0 R0 F0 gh G n Fr R σ fps st a w) {l : List Nat} (hl : l.Nodup) : (l.flatMap fps).Nodup := by
  induction l with
  | nil => simp
  | cons x l ih =>
    rw [List.flatMap_cons, List.nodup_append]
    refine ⟨h.nd x, ih (List.nodup_cons.1 hl).2, ?_⟩
    rintro b hb c hc rfl
    obtain ⟨y, hy, hby⟩ := List.mem_flatMap.1 hc
    exact h.dj x y (by rintro rfl; exact (List.nodup_cons.1 hl).1 hy) b hb hby

theorem storable_one {pv : PV} {v : Value} {f : List Nat} (hs : pv.storable = true) (h : V w R σ pv v f) : v.oneCell' = true ∧ pv ≠ .undef := by
  cases pv <;> simp [PV.storable] at hs <;> simp only [V] at h
  all_goals (refine ⟨?_, by simp⟩)
  · obtain ⟨rfl, _⟩ := h; rfl
  · obtain ⟨rfl, _⟩ := h; rfl
  · obtain ⟨rfl, _⟩ := h; rfl
  · exact h.1 ▸ h.2.1
  · obtain ⟨_, A, cap, us, sz, rfl, _⟩ := h; rfl
  · obtain ⟨us, fp', hr, _⟩ := h
    rcases hr.2 with ⟨rfl, _⟩ | ⟨g, cap, cur, e, lo, hi, rfl, _⟩ <;> rfl
  · obtain ⟨_, a, us, rfl, _⟩ := h; rfl
  · obtain ⟨_, h, b, _, _, rfl⟩ := h; rfl
  · obtain ⟨us, rfl, _⟩ := h; rfl

theorem V.nilslo : V w R σ (.slo 0 []) (.slice none 0 0) [] := by
  simp only [V]
  exact ⟨[], [], ⟨by simp, .inl ⟨rfl, rfl⟩⟩, by simp [Es], rfl⟩

/-- Cells that are put into memory. -/
theorem inl_sound (h : Rel w0 R0 F0 gh G n Fr R σ fps st a w) : ∀ (cs : List PV) (us : List Value) (cs' : List PV) (l : List Nat), inl st.store cs = some (cs', l) → Ts w R σ cs us [] →
    ∃ f, Cs w R σ cs' us f ∧ f.Perm (l.flatMap fps) ∧ cs'.length = cs.length ∧ ∀ c ∈ cs', c ≠ .undef
  | [], us, cs', l, he, ht => by
    simp only [inl, Option.some.injEq, Prod.mk.injEq] at he
    obtain ⟨rfl, rfl⟩ := he
    simp only [Ts] at ht
    exact ⟨[], by simp [Cs, ht.1], by simp, rfl, by simp⟩
  | c :: cs, us, cs', l, he, ht => by
    simp only [Ts] at ht
    obtain ⟨u, us', f1, f2, rfl, hv, hts, hf⟩ := ht
    obtain ⟨rfl, rfl⟩ : f1 = [] ∧ f2 = [] := by simpa using hf.symm
    have step : ∀ (c' : PV) (lc : List Nat) (fc : List Nat) (cs'' : List PV) (l' : List Nat), inl st.store cs = some (cs'', l') → V w R σ c' u fc → u.oneCell' = true → c' ≠ .undef → fc.Perm (lc.flatMap fps) →
        ∃ f, Cs w R σ (c' :: cs'') (u :: us') f ∧ f.Perm ((lc ++ l').flatMap fps) ∧ (c' :: cs'').length = (c :: cs).length ∧ ∀ x ∈ c' :: cs'', x ≠ .undef := by
      intro c' lc fc cs'' l' he hv ho hu hp
      obtain ⟨f, h1, h2, h3, h4⟩ := inl_sound h cs us' cs'' l' he hts
      refine ⟨fc ++ f, by simp only [Cs]; exact ⟨u, us', fc, f, rfl, ho, hv, h1, rfl⟩, by rw [List.flatMap_append]; exact hp.append h2, by simp [h3], ?_⟩
      intro x hx
      rcases List.mem_cons.1 hx with rfl | hx
      · exact hu
      · exact h4 x hx
    cases c with
    | own r =>
      simp only [inl] at he
      split at he
      · rename_i sz es lr cs'' l' hf hi
        simp only [Option.some.injEq, Prod.mk.injEq] at he
        obtain ⟨rfl, rfl⟩ := he
        obtain ⟨k, f, hk, hV, hty, hp⟩ := fold_sound h 4 r _ _ hf
        simp only [V] at hv
        obtain ⟨_, k', hk', rfl, ho⟩ := hv
        obtain rfl : k = k' := by rw [hk] at hk'; exact Option.some.inj hk'
        exact step _ _ _ _ _ hi hV ho (by simp) hp
      · cases he
    | nilS =>
      simp only [inl] at he
      cases hi : inl st.store cs with
      | none => simp [hi] at he
      | some y =>
        simp only [hi, Option.map_some, Option.some.injEq, Prod.mk.injEq] at he
        obtain ⟨rfl, rfl⟩ := he
        simp only [V] at hv
        obtain ⟨rfl, _⟩ := hv
        simpa using step (.slo 0 []) [] [] _ _ hi V.nilslo rfl (by simp) (by simp)
    | _ =>
      simp only [inl] at he
      split at he
      · rename_i hs
        cases hi : inl st.store cs with
        | none => simp [hi] at he
        | some y =>
          simp only [hi, Option.map_some, Option.some.injEq, Prod.mk.injEq] at he
          obtain ⟨rfl, rfl⟩ := he
          obtain ⟨ho, hu⟩ := storable_one hs hv
          exact step _ [] [] _ _ hi hv ho hu (by simp)
      · cases he

/-- The cells of a value that is handed on. -/
theorem cells_Ts {e : PV} {v : Value} (h : V w R σ e v []) : (∃ cs, e = .agg cs ∧ ∃ us, v = .agg us.toArray ∧ Cs w R σ cs us []) ∨ (e.cells = [e] ∧ ∀ x, e ≠ .agg x) := by
  cases e with
  | agg cs => simp only [V] at h; obtain ⟨us, rfl, h⟩ := h; exact .inl ⟨cs, rfl, us, rfl, h⟩
  | _ => exact .inr ⟨rfl, by simp⟩
theorem Cs.toTs : ∀ {cs : List PV} {us : List Value} {f : List Nat}, Cs w R σ cs us f → Ts w R σ cs us f
  | [], us, f, h => by simpa [Cs, Ts] using h
  | c :: cs, us, f, h => by
    simp only [Cs] at h
    obtain ⟨u, us', f1, f2, rfl, _, h1, h2, rfl⟩ := h
    simp only [Ts]
    exact ⟨u, us', f1, f2, rfl, h1, Cs.toTs h2, rfl⟩
/-- A value's cells put into memory. -/
theorem inl_cells (h : Rel w0 R0 F0 gh G n Fr R σ fps st a w) {e : PV} {v : Value} {cs : List PV} {l : List Nat} (he : inl st.store e.cells = some (cs, l)) (hv : V w R σ e v []) :
    ∃ f, Cs w R σ cs v.cells.toList f ∧ f.Perm (l.flatMap fps) ∧ cs.length = e.cells.length ∧ ∀ c ∈ cs, c ≠ .undef := by
  rcases cells_Ts hv with ⟨ds, rfl, us, rfl, hc⟩ | ⟨h1, h2⟩
  · simpa [Value.cells, PV.cells] using inl_sound h ds us cs l he hc.toTs
  · rw [h1] at he ⊢
    obtain ⟨f, k1, k2, k3, k4⟩ := inl_sound h [e] [v] cs l he (by simp only [Ts]; exact ⟨v, [], [], [], rfl, hv, ⟨rfl, rfl⟩, rfl⟩)
    have ho := k1.one v (by simp)
    exact ⟨f, by rw [oneCell_cells ho]; simpa using k1, k2, k3, k4⟩
theorem nilC_or (i : TyI) (cs : List PV) : nilC i cs = cs ∨ ∃ k, cs = [.nilS] ∧ nilC i cs = [.slo k []] := by
  unfold nilC
  split
  · split
    · rename_i k _; exact .inr ⟨k, rfl, rfl⟩
    · exact .inl rfl
  · exact .inl rfl
theorem V.nilslo' (k : Nat) : V w R σ (.slo k []) (.slice none 0 0) [] := by
  simp only [V]
  exact ⟨[], [], ⟨by simp, .inl ⟨rfl, rfl⟩⟩, by simp [Es], rfl⟩
theorem inl_cellsZ (h : Rel w0 R0 F0 gh G n Fr R σ fps st a w) {i : TyI} {e : PV} {v : Value} {cs : List PV} {l : List Nat} (he : inl st.store (nilC i e.cells) = some (cs, l)) (hv : V w R σ e v []) :
    ∃ f, Cs w R σ cs v.cells.toList f ∧ f.Perm (l.flatMap fps) ∧ cs.length = e.cells.length ∧ ∀ c ∈ cs, c ≠ .undef := by
  rcases nilC_or i e.cells with hn | ⟨k, hc, hn⟩
  · rw [hn] at he
    exact inl_cells h he hv
  · rw [hn] at he
    simp [inl, PV.storable] at he
    obtain ⟨rfl, rfl⟩ := he
    have fin : ∀ u : Value, V w R σ .nilS u [] → Cs w R σ [.slo k []] [u] [] := by
      intro u hu
      simp only [V] at hu
      obtain ⟨rfl, _⟩ := hu
      simp only [Cs]
      exact ⟨_, [], [], [], rfl, rfl, V.nilslo' k, ⟨rfl, rfl⟩, rfl⟩
    refine ⟨[], ?_, by simp, by rw [hc]; rfl, by simp⟩
    rcases cells_Ts hv with ⟨ds, rfl, us, rfl, hcs⟩ | ⟨h1, h2⟩
    · simp only [PV.cells] at hc
      subst hc
      simp only [Cs] at hcs
      obtain ⟨u, us', f1, f2, rfl, _, hu, ⟨rfl, rfl⟩, hf⟩ := hcs
      obtain ⟨rfl, _⟩ : f1 = [] ∧ True := by simpa using hf.symm
      simpa [Value.cells] using fin u hu
    · rw [h1] at hc
      simp only [List.cons.injEq, and_true] at hc
      subst hc
      have h3 := hv
      simp only [V] at h3
      obtain ⟨rfl, _⟩ := h3
      simpa [Value.cells] using fin _ hv
end

end Go.Proofs.YtanbccpabgcmaaaGreatDoor.PVE
