/- The PV engine, part 6: roots that are new, folded, frozen. -/
import Derived.Test.YtmanllfmgghadaaGreatDoorEA
set_option linter.unusedVariables false
set_option linter.unusedSimpArgs false
set_option linter.unusedSectionVars false
namespace Go.Proofs.YtmanllfmgghadaaGreatDoor.PVE
open PV
theorem add_block (a : Addr) (n : Nat) : (a.add n).block = a.block := by unfold Addr.add; split <;> rfl
theorem add_add' (a : Addr) (i j : Nat) : (a.add i).add j = a.add (i + j) := by
  unfold Addr.add
  by_cases hi : i = 0
  · simp [hi]
  · by_cases hj : j = 0
    · simp [hj]
    · have : ¬ (i + j = 0) := by omega
      simp [hi, hj, Nat.add_assoc]
theorem add_lit' (b o n : Nat) : (⟨b, o, none⟩ : Addr).add n = ⟨b, o + n, none⟩ := by unfold Addr.add; split <;> simp_all
section
variable {P : Program} {E : Env} {w0 : World} {R0 : Nat → Prop} {F0 : List Nat} {gh : Nat → Value} {G : Nat → Option (List PV)} {n : Nat} {Fr : Nat → Prop} {R : Nat → Prop} {σ : Nat → Option Hd} {fps : Nat → List Nat} {st : St} {a : Act} {w : World} [Dm]
theorem Le_new (h : Rel w0 R0 F0 gh G n Fr R σ fps st a w) (hF : Fr st.next) (x : Option Hd) : Le σ (upd σ st.next x) := by
  intro r k hr
  have : r ≠ st.next := by rintro rfl; rw [(h.fr _ hF).1] at hr; cases hr
  rw [upd_other _ _ _ this]; exact hr
theorem Rel.root (h : Rel w0 R0 F0 gh G n Fr R σ fps st a w) (hF : Fr st.next) {w' : World} {dst : Option Nat} (hd : dstOk n dst) {pv : PV} {links : List (Nat × Nat)} {val : PV} {u : Value} {rem : List Nat} {hd' : Hd} {f : List Nat}
    (hsame : ∀ b, b < w.heap.size → (∀ x ∈ rem, b ∉ fps x) → w'.heap[b]? = w.heap[b]?)
    (hsz : w.heap.size ≤ w'.heap.size) (htape : TapeOk w w') (hos : w'.os = w.os) (hout : w'.output = w.output)
    (hV : V w' R (upd σ st.next (some hd')) pv hd'.hdr f) (hty : RootTy hd' pv) (hf : f.Nodup)
    (hfb : ∀ b ∈ f, (∃ x ∈ rem, b ∈ fps x) ∨ (w.heap.size ≤ b ∧ b < w'.heap.size))
    (hval : V w' R (upd σ st.next (some hd')) val u []) :
    ∃ fps', Rel w0 R0 F0 gh G n (frA Fr st.next (st.next + 1)) R (upd σ st.next (some hd')) fps' (st.app dst ⟨val, rem, [(st.next, ⟨pv, links⟩)], st.next + 1⟩) (a.put dst u) w' := by
  refine ⟨_, h.change (e := ⟨val, rem, [(st.next, ⟨pv, links⟩)], st.next + 1⟩) hd (fun _ => f) (by simp) (fun _ hb => hb) (fun b hb => ⟨Nat.lt_of_lt_of_le (h.Rb b hb).1 hsz, .inl hb⟩) (Le_new h hF _) ?_ ?_ ?_ ?_ ?_ ?_ hsz htape hos hout ?_ (by simp) hval⟩
  · intro b hb
    exact hsame b (h.Rb b hb).1 fun x _ hx => (h.fb x b hx).2.1 hb
  · intro r hr _ b hb
    exact hsame b (h.fb r b hb).1 fun x hx hbx => h.dj r x (by rintro rfl; exact hr hx) b hb hbx
  · intro r x hx
    simp only [List.mem_singleton, Prod.mk.injEq] at hx
    obtain ⟨rfl, rfl⟩ := hx
    exact ⟨hd', upd_same _ _ _, hV, hty⟩
  · simpa using hf
  · intro r hr b hb
    rcases hfb b hb with ⟨x, hx, hbx⟩ | ⟨h1, h2⟩
    · obtain ⟨k1, k2, _⟩ := h.fb x b hbx
      exact ⟨Nat.lt_of_lt_of_le k1 hsz, k2, .inl ⟨x, by simp [hx], hbx⟩⟩
    · exact ⟨h2, fun hb => by have := (h.Rb b hb).1; omega, .inr h1⟩
  · intro b h1 h2
    refine hsame b (Nat.lt_of_lt_of_le h1 h.sz) fun x _ hx => ?_
    rcases (h.fb x b hx).2.2 with h3 | h3
    · exact h2 h3
    · omega
  · intro r hr
    have : r ≠ st.next := by rintro rfl; exact hr.2 ⟨Nat.le_refl _, Nat.lt_succ_self _⟩
    rw [upd_other _ _ _ this]
    exact (h.fr r hr.1).1
theorem putAt_self {l vs : List Value} {k : Nat} (h : ∀ j, j < vs.length → l[k + j]? = vs[j]?) : putAt l k vs = l := by
  unfold putAt
  have e : vs = (l.drop k).take vs.length := by
    apply List.ext_getElem?
    intro j
    by_cases hj : j < vs.length
    · rw [List.getElem?_take_of_lt hj, List.getElem?_drop, h j hj]
    · rw [List.getElem?_eq_none (by omega), List.getElem?_eq_none (by simp; omega)]
  conv => lhs; rw [e]
  rw [List.append_assoc]
  by_cases hl : k + vs.length ≤ l.length
  · rw [show ((l.drop k).take vs.length).length = vs.length by simp; omega, ← List.drop_drop, List.take_append_drop, List.take_append_drop]
  · have h1 : (l.drop k).take vs.length = l.drop k := List.take_of_length_le (by simp; omega)
    rw [h1, show l.drop (k + (l.drop k).length) = [] from List.drop_eq_nil_of_le (by simp; omega)]
    simp
theorem RootTy.undef {h : Hd} {pv : PV} (ht : RootTy h pv) : pv ≠ .undef := by rintro rfl; exact ht
theorem fold_sound (h : Rel w0 R0 F0 gh G n Fr R σ fps st a w) : ∀ (m r : Nat) (pv : PV) (l : List Nat), foldR st.store m r = some (pv, l) →
    ∃ k f, σ r = some k ∧ V w R σ pv k.hdr f ∧ RootTy k pv ∧ f.Perm (l.flatMap fps)
  | 0, r, pv, l, he => by simp [foldR] at he
  | m + 1, r, pv, l, he => by
    simp only [foldR] at he
    cases hs : st.store r with
    | none => simp [hs] at he
    | some rt =>
      simp only [hs] at he
      obtain ⟨k, hk, hV, hty⟩ := h.rt r rt hs
      have main : ∀ (ls : List (Nat × Nat)) (acc : PV × List Nat) (f : List Nat), V w R σ acc.1 k.hdr f → RootTy k acc.1 → f.Perm (acc.2.flatMap fps) →
          ls.foldlM (fun acc l => match acc.1.cellAt l.1 l.2 with
            | some (.own c) => (foldR st.store m c).map fun x => (acc.1.put l.1 l.2 [x.1], acc.2 ++ x.2)
            | _ => some acc) acc = some (pv, l) → ∃ f, V w R σ pv k.hdr f ∧ RootTy k pv ∧ f.Perm (l.flatMap fps) := by
        intro ls
        induction ls with
        | nil =>
          intro acc f h1 h2 h3 he
          simp only [List.foldlM_nil, Option.pure_def, Option.some.injEq] at he
          subst he
          exact ⟨f, h1, h2, h3⟩
        | cons x ls ih =>
          intro acc f h1 h2 h3 he
          rw [List.foldlM_cons] at he
          by_cases hc : ∃ c, acc.1.cellAt x.1 x.2 = some (.own c)
          · obtain ⟨c, hc⟩ := hc
            simp only [hc] at he
            cases hf : foldR st.store m c with
            | none => simp [hf] at he
            | some y =>
              obtain ⟨pc, lc⟩ := y
              simp only [hf, Option.map_some, Option.bind_eq_bind, Option.bind_some] at he
              obtain ⟨kc, fc, hkc, hVc, htc, hpc⟩ := fold_sound h m c pc lc hf
              unfold PV.cellAt at hc
              cases he' : acc.1.elem x.1 with
              | none => simp [he'] at hc
              | some e =>
                simp only [he'] at hc
                have hlen : x.2 + 1 ≤ e.cells.length := by
                  have := (List.getElem?_eq_some_iff.1 hc).1; omega
                obtain ⟨b, cur, et, lo, hi, f1, f0, f2, old, hblk, hg, hmark, hsz, hol, rfl, hold, hcur, _, hput⟩ := focus h1 h2 he' hlen (Nat.succ_pos 0)
                have hone : (e.cells.drop x.2).take 1 = [.own c] := by
                  rw [List.take_one, List.head?_drop, hc]; rfl
                rw [hone] at hold
                simp only [Cs, V] at hold
                obtain ⟨u, _, fa, _, rfl, ho, ⟨rfl, kc', hkc', rfl, ho'⟩, ⟨rfl, rfl⟩, rfl⟩ := hold
                obtain rfl : kc = kc' := by rw [hkc] at hkc'; exact Option.some.inj hkc'
                have hV' := hput (w' := w) (R' := R) (σ' := σ) (cs' := [pc]) (us' := [kc.hdr]) (f' := fc) (fun _ h => h) (Le.refl _) (fun _ _ => rfl) (fun _ _ => rfl)
                  (by rw [putAt_self (by intro j hj; rw [Array.getElem?_toList]; exact hcur j (by simpa using hj))]; simpa using hg)
                  (by simp only [Cs]; exact ⟨kc.hdr, [], fc, [], rfl, ho, hVc, ⟨rfl, rfl⟩, by simp⟩) rfl (.inr (by simpa using htc.undef))
                refine ih _ _ hV' (put_ty h2 _ _) ?_ he
                rw [List.flatMap_append]
                have e1 : (b :: f1 ++ fc ++ f2).Perm ((b :: f1 ++ ([] ++ []) ++ f2) ++ fc) := by
                  simp only [List.append_nil, List.append_assoc, List.cons_append]
                  exact List.Perm.cons _ (List.Perm.append_left _ List.perm_append_comm)
                exact e1.trans (h3.append hpc)
          · have he2 : (match acc.1.cellAt x.1 x.2 with
              | some (.own c) => (foldR st.store m c).map fun y => (acc.1.put x.1 x.2 [y.1], acc.2 ++ y.2)
              | _ => some acc) = some acc := by
              split
              · rename_i c hh; exact absurd ⟨c, hh⟩ hc
              · rfl
            simp only [he2, Option.bind_eq_bind, Option.bind_some] at he
            exact ih _ _ h1 h2 h3 he
      obtain ⟨f, h1, h2, h3⟩ := main rt.links (rt.pv, [r]) (fps r) hV hty (by simp) he
      exact ⟨k, f, hk, h1, h2, h3⟩
theorem perm_nodup (h : Rel w0 R0 F0 gh G n Fr R σ fps st a w) {l : List Nat} (hl : l.Nodup) : (l.flatMap fps).Nodup := by
  induction l with
  | nil => simp
  | cons x l ih =>
    rw [List.flatMap_cons, List.nodup_append]
    refine ⟨h.nd x, ih (List.nodup_cons.1 hl).2, ?_⟩
    rintro b hb c hc rfl
    obtain ⟨y, hy, hby⟩ := List.mem_flatMap.1 hc
    exact h.dj x y (by rintro rfl; exact (List.nodup_cons.1 hl).1 hy) b hb hby
theorem storable_one {pv : PV} {v : Value} {f : List Nat} (hs : pv.storable = true) (h : V w R σ pv v f) : v.oneCell' = true ∧ pv ≠ .undef := by
  cases pv <;> simp [PV.storable] at hs <;> simp only [V] at h
  all_goals (refine ⟨?_, by simp⟩)
  · obtain ⟨rfl, _⟩ := h; rfl
  · obtain ⟨rfl, _⟩ := h; rfl
  · obtain ⟨rfl, _⟩ := h; rfl
  · exact h.1 ▸ h.2.1
  · obtain ⟨_, A, cap, us, sz, rfl, _⟩ := h; rfl
  · obtain ⟨us, fp', hr, _⟩ := h
    rcases hr.2 with ⟨rfl, _⟩ | ⟨g, cap, cur, e, lo, hi, rfl, _⟩ <;> rfl
  · obtain ⟨_, a, us, rfl, _⟩ := h; rfl
  · obtain ⟨_, h, b, _, _, rfl⟩ := h; rfl
  · obtain ⟨us, rfl, _⟩ := h; rfl
theorem V.nilslo : V w R σ (.slo 0 []) (.slice none 0 0) [] := by
  simp only [V]
  exact ⟨[], [], ⟨by simp, .inl ⟨rfl, rfl⟩⟩, by simp [Es], rfl⟩
theorem inl_sound (h : Rel w0 R0 F0 gh G n Fr R σ fps st a w) : ∀ (cs : List PV) (us : List Value) (cs' : List PV) (l : List Nat), inl st.store cs = some (cs', l) → Ts w R σ cs us [] →
    ∃ f, Cs w R σ cs' us f ∧ f.Perm (l.flatMap fps) ∧ cs'.length = cs.length ∧ ∀ c ∈ cs', c ≠ .undef
  | [], us, cs', l, he, ht => by
    simp only [inl, Option.some.injEq, Prod.mk.injEq] at he
    obtain ⟨rfl, rfl⟩ := he
    simp only [Ts] at ht
    exact ⟨[], by simp [Cs, ht.1], by simp, rfl, by simp⟩
  | c :: cs, us, cs', l, he, ht => by
    simp only [Ts] at ht
    obtain ⟨u, us', f1, f2, rfl, hv, hts, hf⟩ := ht
    obtain ⟨rfl, rfl⟩ : f1 = [] ∧ f2 = [] := by simpa using hf.symm
    have step : ∀ (c' : PV) (lc : List Nat) (fc : List Nat) (cs'' : List PV) (l' : List Nat), inl st.store cs = some (cs'', l') → V w R σ c' u fc → u.oneCell' = true → c' ≠ .undef → fc.Perm (lc.flatMap fps) →
        ∃ f, Cs w R σ (c' :: cs'') (u :: us') f ∧ f.Perm ((lc ++ l').flatMap fps) ∧ (c' :: cs'').length = (c :: cs).length ∧ ∀ x ∈ c' :: cs'', x ≠ .undef := by
      intro c' lc fc cs'' l' he hv ho hu hp
      obtain ⟨f, h1, h2, h3, h4⟩ := inl_sound h cs us' cs'' l' he hts
      refine ⟨fc ++ f, by simp only [Cs]; exact ⟨u, us', fc, f, rfl, ho, hv, h1, rfl⟩, by rw [List.flatMap_append]; exact hp.append h2, by simp [h3], ?_⟩
      intro x hx
      rcases List.mem_cons.1 hx with rfl | hx
      · exact hu
      · exact h4 x hx
    cases c with
    | own r =>
      simp only [inl] at he
      split at he
      · rename_i sz es lr cs'' l' hf hi
        simp only [Option.some.injEq, Prod.mk.injEq] at he
        obtain ⟨rfl, rfl⟩ := he
        obtain ⟨k, f, hk, hV, hty, hp⟩ := fold_sound h 4 r _ _ hf
        simp only [V] at hv
        obtain ⟨_, k', hk', rfl, ho⟩ := hv
        obtain rfl : k = k' := by rw [hk] at hk'; exact Option.some.inj hk'
        exact step _ _ _ _ _ hi hV ho (by simp) hp
      · rename_i es lr cs'' l' hf hi
        simp only [Option.some.injEq, Prod.mk.injEq] at he
        obtain ⟨rfl, rfl⟩ := he
        obtain ⟨k, f, hk, hV, hty, hp⟩ := fold_sound h 4 r _ _ hf
        simp only [V] at hv
        obtain ⟨_, k', hk', rfl, ho⟩ := hv
        obtain rfl : k = k' := by rw [hk] at hk'; exact Option.some.inj hk'
        exact step _ _ _ _ _ hi hV ho (by simp) hp
      · cases he
    | nilS =>
      simp only [inl] at he
      cases hi : inl st.store cs with
      | none => simp [hi] at he
      | some y =>
        simp only [hi, Option.map_some, Option.some.injEq, Prod.mk.injEq] at he
        obtain ⟨rfl, rfl⟩ := he
        simp only [V] at hv
        obtain ⟨rfl, _⟩ := hv
        simpa using step (.slo 0 []) [] [] _ _ hi V.nilslo rfl (by simp) (by simp)
    | _ =>
      simp only [inl] at he
      split at he
      · rename_i hs
        cases hi : inl st.store cs with
        | none => simp [hi] at he
        | some y =>
          simp only [hi, Option.map_some, Option.some.injEq, Prod.mk.injEq] at he
          obtain ⟨rfl, rfl⟩ := he
          obtain ⟨ho, hu⟩ := storable_one hs hv
          exact step _ [] [] _ _ hi hv ho hu (by simp)
      · cases he
theorem cells_Ts {e : PV} {v : Value} (h : V w R σ e v []) : (∃ cs, e = .agg cs ∧ ∃ us, v = .agg us.toArray ∧ Cs w R σ cs us []) ∨ (e.cells = [e] ∧ ∀ x, e ≠ .agg x) := by
  cases e with
  | agg cs => simp only [V] at h; obtain ⟨us, rfl, h⟩ := h; exact .inl ⟨cs, rfl, us, rfl, h⟩
  | _ => exact .inr ⟨rfl, by simp⟩
theorem Cs.toTs : ∀ {cs : List PV} {us : List Value} {f : List Nat}, Cs w R σ cs us f → Ts w R σ cs us f
  | [], us, f, h => by simpa [Cs, Ts] using h
  | c :: cs, us, f, h => by
    simp only [Cs] at h
    obtain ⟨u, us', f1, f2, rfl, _, h1, h2, rfl⟩ := h
    simp only [Ts]
    exact ⟨u, us', f1, f2, rfl, h1, Cs.toTs h2, rfl⟩
theorem inl_cells (h : Rel w0 R0 F0 gh G n Fr R σ fps st a w) {e : PV} {v : Value} {cs : List PV} {l : List Nat} (he : inl st.store e.cells = some (cs, l)) (hv : V w R σ e v []) :
    ∃ f, Cs w R σ cs v.cells.toList f ∧ f.Perm (l.flatMap fps) ∧ cs.length = e.cells.length ∧ ∀ c ∈ cs, c ≠ .undef := by
  rcases cells_Ts hv with ⟨ds, rfl, us, rfl, hc⟩ | ⟨h1, h2⟩
  · simpa [Value.cells, PV.cells] using inl_sound h ds us cs l he hc.toTs
  · rw [h1] at he ⊢
    obtain ⟨f, k1, k2, k3, k4⟩ := inl_sound h [e] [v] cs l he (by simp only [Ts]; exact ⟨v, [], [], [], rfl, hv, ⟨rfl, rfl⟩, rfl⟩)
    have ho := k1.one v (by simp)
    exact ⟨f, by rw [oneCell_cells ho]; simpa using k1, k2, k3, k4⟩
theorem nilC_or (i : TyI) (cs : List PV) : nilC i cs = cs ∨ ∃ k, cs = [.nilS] ∧ nilC i cs = [.slo k []] := by
  unfold nilC
  split
  · split
    · rename_i k _; exact .inr ⟨k, rfl, rfl⟩
    · exact .inl rfl
  · exact .inl rfl
theorem V.nilslo' (k : Nat) : V w R σ (.slo k []) (.slice none 0 0) [] := by
  simp only [V]
  exact ⟨[], [], ⟨by simp, .inl ⟨rfl, rfl⟩⟩, by simp [Es], rfl⟩
theorem inl_cellsZ (h : Rel w0 R0 F0 gh G n Fr R σ fps st a w) {i : TyI} {e : PV} {v : Value} {cs : List PV} {l : List Nat} (he : inl st.store (nilC i e.cells) = some (cs, l)) (hv : V w R σ e v []) :
    ∃ f, Cs w R σ cs v.cells.toList f ∧ f.Perm (l.flatMap fps) ∧ cs.length = e.cells.length ∧ ∀ c ∈ cs, c ≠ .undef := by
  rcases nilC_or i e.cells with hn | ⟨k, hc, hn⟩
  · rw [hn] at he
    exact inl_cells h he hv
  · rw [hn] at he
    simp [inl, PV.storable] at he
    obtain ⟨rfl, rfl⟩ := he
    have fin : ∀ u : Value, V w R σ .nilS u [] → Cs w R σ [.slo k []] [u] [] := by
      intro u hu
      simp only [V] at hu
      obtain ⟨rfl, _⟩ := hu
      simp only [Cs]
      exact ⟨_, [], [], [], rfl, rfl, V.nilslo' k, ⟨rfl, rfl⟩, rfl⟩
    refine ⟨[], ?_, by simp, by rw [hc]; rfl, by simp⟩
    rcases cells_Ts hv with ⟨ds, rfl, us, rfl, hcs⟩ | ⟨h1, h2⟩
    · simp only [PV.cells] at hc
      subst hc
      simp only [Cs] at hcs
      obtain ⟨u, us', f1, f2, rfl, _, hu, ⟨rfl, rfl⟩, hf⟩ := hcs
      obtain ⟨rfl, _⟩ : f1 = [] ∧ True := by simpa using hf.symm
      simpa [Value.cells] using fin u hu
    · rw [h1] at hc
      simp only [List.cons.injEq, and_true] at hc
      subst hc
      have h3 := hv
      simp only [V] at h3
      obtain ⟨rfl, _⟩ := h3
      simpa [Value.cells] using fin _ hv
end
end Go.Proofs.YtmanllfmgghadaaGreatDoor.PVE
namespace Go.Proofs.YtmanllfmgghadaaGreatDoor.PVE
open PV
section
variable {P : Program} {E : Env} {w0 : World} {R0 : Nat → Prop} {F0 : List Nat} {gh : Nat → Value} {n : Nat} {Fr : Nat → Prop} {R : Nat → Prop} {σ : Nat → Option Hd} {fps : Nat → List Nat} {st : St} {a : Act} {w : World} [Dm]
theorem heap_new (w : World) (o : Obj) : (w.alloc o).heap[w.heap.size]? = some o := heap_alloc_new w o
theorem heap_old (w : World) (o : Obj) (i : Nat) (h : i < w.heap.size) : (w.alloc o).heap[i]? = w.heap[i]? := by
  show (w.heap.push o)[i]? = _
  rw [Array.getElem?_push, if_neg (by omega)]
theorem out_box (h : Rel w0 R0 F0 gh E.G n Fr R σ fps st a w) {o : Oper} (hd : dstOk n o.dst) {cs : List PV} {us : Array Value} {t : Nat} {rem : List Nat} {f : List Nat} {links : List (Nat × Nat)} (hnd : rem.Nodup)
    (hc : Cs w R σ cs us.toList f) (hf : f.Perm (rem.flatMap fps)) (hr : (execOp a.eval o).run P w = .ok (.value (.pointer (some ⟨w.heap.size, 0, none⟩))) (w.alloc (.cells us t))) :
    Out P E w0 R0 F0 gh n Fr st o a w ⟨.addr st.next 0 0, rem, [(st.next, ⟨.pto cs, links⟩)], st.next + 1⟩ := by
  intro hFF
  have hF : Fr st.next := hFF _ (Nat.le_refl _) (Nat.lt_succ_self _)
  have hold : ∀ b, b < w.heap.size → (w.alloc (.cells us t)).heap[b]? = w.heap[b]? := fun b hb => heap_old w _ b hb
  have hmem : ∀ b ∈ f, ∃ x ∈ rem, b ∈ fps x := fun b hb => by
    obtain ⟨x, hx, hbx⟩ := List.mem_flatMap.1 (hf.mem_iff.1 hb); exact ⟨x, hx, hbx⟩
  have hV : V (w.alloc (.cells us t)) R (upd σ st.next (some ⟨.pointer (some ⟨w.heap.size, 0, none⟩), 0⟩)) (.pto cs) (.pointer (some ⟨w.heap.size, 0, none⟩)) (w.heap.size :: f) := by
    simp only [V]
    refine ⟨w.heap.size, us.toList, t, f, rfl, by rw [heap_new], ?_, rfl⟩
    exact Cs.mono (fun _ h => h) (Le_new h hF _) (fun b hb => hold b (h.Rb b hb).1) _ _ _ (fun b hb => by obtain ⟨x, _, hx⟩ := hmem b hb; exact hold b (h.fb x b hx).1) hc
  have hN : (w.heap.size :: f).Nodup := by
    rw [List.nodup_cons]
    refine ⟨fun hb => ?_, hf.nodup_iff.2 (perm_nodup h hnd)⟩
    obtain ⟨x, _, hx⟩ := hmem _ hb
    have := (h.fb x _ hx).1
    omega
  have hB : ∀ b ∈ w.heap.size :: f, (∃ x ∈ rem, b ∈ fps x) ∨ (w.heap.size ≤ b ∧ b < (w.alloc (.cells us t)).heap.size) := by
    intro b hb
    rcases List.mem_cons.1 hb with rfl | hb
    · exact .inr ⟨Nat.le_refl _, by simp⟩
    · exact .inl (hmem b hb)
  have hU : V (w.alloc (.cells us t)) R (upd σ st.next (some ⟨.pointer (some ⟨w.heap.size, 0, none⟩), 0⟩)) (.addr st.next 0 0) (.pointer (some ⟨w.heap.size, 0, none⟩)) [] := by
    simp only [V]
    exact ⟨trivial, _, w.heap.size, upd_same _ _ _, rfl, by simp⟩
  obtain ⟨fps', hrel⟩ := h.root hF (links := links) hd (fun b hb _ => hold b hb) (by simp) ⟨rfl, fun _ => Nat.le_refl _⟩ rfl rfl hV trivial hN hB hU
  exact ⟨_, _, _, _, _, fps', hr, .inl rfl, hrel⟩
theorem out_alloc (hT : TyOk P E.T) (h : Rel w0 R0 F0 gh E.G n Fr R σ fps st a w) {o : Oper} (hd : dstOk n o.dst) {t : Nat} (ho : o.op = .alloc t) {p : Prop} {e : Eff} (he : eff E st o.op = some (p, e)) (hp : p) : Out P E w0 R0 F0 gh n Fr st o a w e := by
  rw [ho] at he
  simp only [eff] at he
  split at he
  · rename_i i hi
    simp only [newRoot, List.nodup_nil, if_true, Option.some.injEq, Prod.mk.injEq] at he
    obtain ⟨_, rfl⟩ := he
    obtain ⟨_, ti, z, h1, h2, h3, h4, h5, h6, h7, h8, h9⟩ := hT t i hi
    refine out_box h hd (us := z.cells) (t := t) (f := []) List.nodup_nil (zv_Cs h9).1 (by simp) ?_
    simp [execOp, ho, Instr.alloc, zeroValue, typeInfo, h1, h2, newVar, newRow]
  · cases he
theorem out_boxop (h : Rel w0 R0 F0 gh E.G n Fr R σ fps st a w) {o : Oper} (hd : dstOk n o.dst) {t : Nat} {x : Operand} (ho : o.op = .box t x) {p : Prop} {e : Eff} (he : eff E st o.op = some (p, e)) (hp : p) : Out P E w0 R0 F0 gh n Fr st o a w e := by
  rw [ho] at he
  simp only [eff] at he
  split at he
  · split at he
    · rename_i cs rem hi
      simp only [newRoot] at he
      split at he
      · rename_i hnd
        simp only [Option.some.injEq, Prod.mk.injEq] at he
        obtain ⟨_, rfl⟩ := he
        obtain ⟨f, k1, k2, k3, k4⟩ := inl_cells h hi (ev_V h x)
        refine out_box h hd (us := (a.eval x).cells) (t := t) hnd k1 k2 ?_
        simp [execOp, ho, Instr.box, newVar, newRow]
      · cases he
    · cases he
  · rename_i hb
    simp only [Option.some.injEq, Prod.mk.injEq] at he
    obtain ⟨_, rfl⟩ := he
    have hv := ev_V h x
    have hc : Cs w R σ (ev E st x).cells (a.eval x).cells.toList [] := by
      cases hx : ev E st x <;> rw [hx] at hb hv <;> simp only [boxLinks, List.isEmpty_nil, not_true_eq_false] at hb
      simp only [V] at hv
      obtain ⟨us, hu, hcs⟩ := hv
      rw [hu]
      simpa [PV.cells, Value.cells] using hcs
    refine out_box h hd (us := (a.eval x).cells) (t := t) (f := []) List.nodup_nil hc (by simp) ?_
    simp [execOp, ho, Instr.box, newVar, newRow]
theorem out_row (h : Rel w0 R0 F0 gh E.G n Fr R σ fps st a w) {o : Oper} (hd : dstOk n o.dst) {w' : World} {es : List PV} {us : List Value} {sz : Nat} {v : Value} {rem : List Nat} {f : List Nat} {links : List (Nat × Nat)} (hnd : rem.Nodup)
    (hes : Es w R σ sz es us f) (hf : f.Perm (rem.flatMap fps)) (hrow : Row w' sz v es.length us) (hv : v.oneCell' = true) (hblk : ∀ b, blkOf v = some b → w.heap.size ≤ b ∧ b < w'.heap.size)
    (hold : ∀ b, b < w.heap.size → w'.heap[b]? = w.heap[b]?) (hsz : w.heap.size ≤ w'.heap.size) (htape : TapeOk w w') (hos : w'.os = w.os) (hout : w'.output = w.output)
    (hr : (execOp a.eval o).run P w = .ok (.value v) w') :
    Out P E w0 R0 F0 gh n Fr st o a w ⟨.own st.next, rem, [(st.next, ⟨.slo sz es, links⟩)], st.next + 1⟩ := by
  intro hFF
  have hF : Fr st.next := hFF _ (Nat.le_refl _) (Nat.lt_succ_self _)
  have hmem : ∀ b ∈ f, ∃ x ∈ rem, b ∈ fps x := fun b hb => by
    obtain ⟨x, hx, hbx⟩ := List.mem_flatMap.1 (hf.mem_iff.1 hb); exact ⟨x, hx, hbx⟩
  have hV : V w' R (upd σ st.next (some ⟨v, sz⟩)) (.slo sz es) v ((blkOf v).toList ++ f) := by
    simp only [V]
    refine ⟨us, f, hrow, ?_, rfl⟩
    exact Es.mono (fun _ h => h) (Le_new h hF _) (fun b hb => hold b (h.Rb b hb).1) _ _ _ _ (fun b hb => by obtain ⟨x, _, hx⟩ := hmem b hb; exact hold b (h.fb x b hx).1) hes
  have hN : ((blkOf v).toList ++ f).Nodup := by
    rw [List.nodup_append]
    refine ⟨by cases blkOf v <;> simp, hf.nodup_iff.2 (perm_nodup h hnd), ?_⟩
    rintro b hb c hc rfl
    obtain ⟨x, _, hx⟩ := hmem _ hc
    have h1 := (h.fb x _ hx).1
    have h2 := (hblk b (by simpa using hb)).1
    omega
  have hB : ∀ b ∈ (blkOf v).toList ++ f, (∃ x ∈ rem, b ∈ fps x) ∨ (w.heap.size ≤ b ∧ b < w'.heap.size) := by
    intro b hb
    rcases List.mem_append.1 hb with hb | hb
    · exact .inr (hblk b (by simpa using hb))
    · exact .inl (hmem b hb)
  have hU : V w' R (upd σ st.next (some ⟨v, sz⟩)) (.own st.next) v [] := by
    simp only [V]
    exact ⟨trivial, _, upd_same _ _ _, rfl, hv⟩
  obtain ⟨fps', hrel⟩ := h.root hF (links := links) hd (fun b hb _ => hold b hb) hsz htape hos hout hV rfl hN hB hU
  exact ⟨_, _, _, _, _, fps', hr, .inl rfl, hrel⟩
theorem maxLen_val : maxLen = 9223372036854775807 := rfl
theorem Row.new (w : World) {sz n cap : Nat} {cur : Array Value} {e : Nat} {us : List Value} (hn : n ≤ cap) (hc : cap ≤ maxLen) (hs : cur.size = cap * sz) (ht : cur.toList.take (n * sz) = us) :
    Row (w.alloc (.cells cur e)) sz (.slice (some ⟨w.heap.size, 0, none⟩) n cap) n us := by
  refine ⟨?_, .inr ⟨w.heap.size, cap, cur, e, 0, 0, rfl, heap_new w _, .inl ⟨rfl, rfl⟩, hn, hc, hs, ht⟩⟩
  rw [← ht, List.length_take, Array.length_toList, hs, Nat.min_eq_left (Nat.mul_le_mul_right _ hn)]
theorem fill_put (off : Nat) : ∀ (vs : List Value) (j : Nat) (cells : Array Value), off + j + vs.length ≤ cells.size →
    (vs.zipIdx j).foldl (fun cs (c : Value × Nat) => cs.setIfInBounds (off + c.2) c.1) cells = (putAt cells.toList (off + j) vs).toArray
  | [], j, cells, _ => by simp [putAt]
  | v :: vs, j, cells, hl => by
    simp only [List.zipIdx_cons, List.foldl_cons]
    rw [fill_put off vs (j + 1) _ (by simp at hl ⊢; omega)]
    congr 1
    have e := list_seg_step cells.toList (off + j) v vs (by simp at hl ⊢; omega)
    simpa [putAt, Array.toList_setIfInBounds, Nat.add_assoc] using e
theorem fill_put_arr (off : Nat) (vs : Array Value) (cells : Array Value) (h : off + vs.size ≤ cells.size) :
    vs.zipIdx.foldl (fun cs (c : Value × Nat) => cs.setIfInBounds (off + c.2) c.1) cells = (putAt cells.toList off vs.toList).toArray := by
  have := fill_put off vs.toList 0 cells (by simpa using h)
  rw [Nat.add_zero] at this
  rw [← this, ← Array.foldl_toList]
  congr 1
  simp [Array.toList_zipIdx]
theorem Cs.put {cs ds : List PV} {us vs : List Value} {off : Nat} (h : Cs w R σ cs us []) (k : Cs w R σ ds vs []) (hl : off + ds.length ≤ cs.length) : Cs w R σ (putCells cs off ds) (putAt us off vs) [] := by
  have hsplit : cs = cs.take off ++ ((cs.drop off).take ds.length ++ cs.drop (off + ds.length)) := by
    rw [← List.drop_drop, List.take_append_drop, List.take_append_drop]
  rw [hsplit] at h
  obtain ⟨p1, q, g1, gq, hq, hg, h1, h2⟩ := Cs.append.1 h
  obtain ⟨p2, p3, g0, g2, rfl, rfl, h3, h4⟩ := Cs.append.1 h2
  obtain ⟨rfl, rfl, rfl⟩ : g1 = [] ∧ g0 = [] ∧ g2 = [] := by simpa using hg.symm
  have l1 : p1.length = off := by rw [h1.length]; simp; omega
  have l2 : p2.length = vs.length := by rw [h3.length, k.length]; simp; omega
  subst hq
  have : putAt (p1 ++ (p2 ++ p3)) off vs = p1 ++ vs ++ p3 := by rw [← l1, ← List.append_assoc]; exact putAt_mid _ _ _ _ l2.symm
  rw [this]
  unfold putCells
  exact Cs.append.2 ⟨p1 ++ vs, p3, [], [], rfl, rfl, Cs.append.2 ⟨p1, vs, [], [], rfl, rfl, h1, k⟩, h4⟩
theorem cells_Cs {e : PV} {v : Value} (h : V w R σ e v []) (hs : e.cells.all (fun c => c.storable || (match c with | .own _ | .nilS => true | _ => false)) = true) : Cs w R σ e.cells v.cells.toList [] := by
  rcases cells_Ts h with ⟨ds, rfl, us, rfl, hc⟩ | ⟨h1, h2⟩
  · simpa [Value.cells, PV.cells] using hc
  · rw [h1] at hs ⊢
    have ho : v.oneCell' = true := by
      simp only [List.all_cons, List.all_nil, Bool.and_true, Bool.or_eq_true] at hs
      rcases hs with hs | hs
      · exact (storable_one hs h).1
      · cases e <;> simp at hs <;> simp only [V] at h
        · obtain ⟨rfl, _⟩ := h; rfl
        · exact h.2.choose_spec.2.2
    rw [oneCell_cells ho]
    simp only [List.toList_toArray, Cs]
    exact ⟨v, [], [], [], rfl, ho, h, ⟨rfl, rfl⟩, rfl⟩
theorem build_sound {T : Nat → Option TyI} (place : Nat → Option (Nat × Nat)) (fs : List (Nat × Nat)) (ρ : Operand → Value) (ρ' : Operand → PV) (hρ : ∀ x, V w R σ (ρ' x) (ρ x) [])
    (hpl : ∀ i off ft fi, fs[i]? = some (off, ft) → T ft = some fi → place i = some (off, fi.size)) :
    ∀ (parts : List (Nat × Operand)) (zero : List PV) (us : Array Value) (cs : List PV), Cs w R σ zero us.toList [] → buildCells T fs zero (parts.map fun x => (x.1, ρ' x.2)) = some cs →
      ∃ vs, Instr.fill place us (parts.map fun x => (x.1, ρ x.2)) = some vs ∧ Cs w R σ cs vs.toList []
  | [], zero, us, cs, hz, he => by
    simp only [List.map_nil, buildCells, Option.some.injEq] at he
    subst he
    exact ⟨us, rfl, hz⟩
  | (i, x) :: parts, zero, us, cs, hz, he => by
    simp only [List.map_cons, buildCells] at he
    split at he
    · rename_i off ft hfs
      split at he
      · rename_i fi hft
        split at he
        · rename_i hcond
          obtain ⟨c1, c2, c3⟩ := hcond
          have hc := cells_Cs (hρ x) c3
          have hsz : (ρ x).cells.size = fi.size := by rw [c1, ← hc.length]; simp
          have hus : us.size = zero.length := by rw [← hz.length]; simp
          have hnew := Cs.put hz hc c2
          have hfit : off + (ρ x).cells.size ≤ us.size := by rw [hsz, c1, hus]; exact c2
          obtain ⟨vs, k1, k2⟩ := build_sound place fs ρ ρ' hρ hpl parts (putCells zero off (ρ' x).cells) (putAt us.toList off (ρ x).cells.toList).toArray cs (by simpa using hnew) he
          refine ⟨vs, ?_, k2⟩
          simp only [List.map_cons, Instr.fill, hpl i off ft fi hfs hft]
          rw [if_neg (by simp [hsz]; rw [← hsz]; omega), fill_put_arr off _ _ hfit]
          exact k1
        · cases he
      · cases he
    · cases he
theorem mapM_some {α β : Type} (f : α → Option β) : ∀ (l : List α), (∀ x ∈ l, (f x).isSome = true) → ∃ r, l.mapM f = some r ∧ r.map some = l.map f
  | [], _ => ⟨[], rfl, rfl⟩
  | x :: l, h => by
    obtain ⟨y, hy⟩ := Option.isSome_iff_exists.1 (h x (by simp))
    obtain ⟨r, h1, h2⟩ := mapM_some f l (fun z hz => h z (by simp [hz]))
    exact ⟨y :: r, by simp [List.mapM_cons, hy, h1], by simp [hy, h2]⟩
theorem out_build (hT : TyOk P E.T) (h : Rel w0 R0 F0 gh E.G n Fr R σ fps st a w) {o : Oper} (hd : dstOk n o.dst) {t : Nat} {parts : Array (Nat × Operand)} (ho : o.op = .build t parts) {p : Prop} {e : Eff} (he : eff E st o.op = some (p, e)) (hp : p) : Out P E w0 R0 F0 gh n Fr st o a w e := by
  rw [ho] at he
  simp only [eff] at he
  split at he
  · rename_i fs sz by_ zero hTt
    split at he
    · rename_i cs hb
      obtain ⟨⟨fds, hu, hfds, hfsz⟩, ti, z, h1, h2, h3, h4, h5, h6, h7, h8, h9⟩ := hT t _ hTt
      obtain ⟨pl, hpl1, hpl2⟩ := mapM_some (fun f : Field => (P.info? f.type).map fun i => (f.offset, i.size)) fds.toList (fun f hf => by
        obtain ⟨ti, hti, _⟩ := hfsz f hf; simp [hti])
      obtain ⟨zs, rfl⟩ := h7 rfl
      obtain ⟨vs, k1, k2⟩ := build_sound (T := E.T) (fun i : Nat => pl[i]?) fs a.eval (ev E st) (fun x => ev_V h x) (by
        intro i off ft fi hfs hft
        have e1 : (pl.map some)[i]? = (fds.toList.map fun f : Field => (P.info? f.type).map fun i => (f.offset, i.size))[i]? := by rw [hpl2]
        rw [← hfds] at hfs
        rw [List.getElem?_map] at hfs e1
        rw [List.getElem?_map] at e1
        cases hf : fds.toList[i]? with
        | none => rw [hf] at hfs; cases hfs
        | some f =>
          rw [hf] at hfs e1
          simp only [Option.map_some, Option.some.injEq, Prod.mk.injEq] at hfs
          obtain ⟨rfl, rfl⟩ := hfs
          obtain ⟨_, ti', z', g1, g2, g3, _⟩ := hT _ _ hft
          simp only [g1, Option.map_some] at e1
          cases hp' : pl[i]? with
          | none => rw [hp'] at e1; cases e1
          | some q => rw [hp'] at e1; simp at e1; rw [e1, g3]) parts.toList zero zs cs (by have := (zv_Cs (w := w) (R := R) (σ := σ) h9).1; simpa [Value.cells] using this) hb
      refine out_plain h hd he (u := .agg vs) (by simp only [V]; exact ⟨vs.toList, by simp, k2⟩) ?_
      have hbuilt : P.built t (parts.map fun x => (x.1, a.eval x.2)).toList = some vs := by
        simp only [Program.built, h1, hu, h2, hpl1]
        have : (fun x : Nat => pl.toArray[x]?) = fun i => pl[i]? := by funext i; simp
        simp only [this, Value.cells, Array.toList_map]
        exact k1
      simp only [execOp, ho, Sem.run_bind, run_build w t _ vs hbuilt, Result.andThen_ok, Sem.run_pure]
    · cases he
  · cases he
end
end Go.Proofs.YtmanllfmgghadaaGreatDoor.PVE
namespace Go.Proofs.YtmanllfmgghadaaGreatDoor.PVE
open PV
section
variable {P : Program} {E : Env} {w0 : World} {R0 : Nat → Prop} {F0 : List Nat} {gh : Nat → Value} {n : Nat} {Fr : Nat → Prop} {R : Nat → Prop} {σ : Nat → Option Hd} {fps : Nat → List Nat} {st : St} {a : Act} {w : World} [Dm]
theorem fill_all (size : Nat) : ∀ (vs : List Value) (j : Nat) (cur : Array Value), cur.size = (j + vs.length) * size → (∀ v ∈ vs, v.cells.size = size) →
    Instr.fill (fun i => some (i * size, size)) cur ((vs.zipIdx j).map fun x => (x.2, x.1)) = some (cur.toList.take (j * size) ++ vs.flatMap fun v => v.cells.toList).toArray
  | [], j, cur, hl, _ => by
    simp only [List.zipIdx_nil, List.map_nil, Instr.fill, List.flatMap_nil, List.append_nil, Option.some.injEq]
    have : cur.toList.length = j * size := by simpa using hl
    rw [← this, List.take_length]
  | v :: vs, j, cur, hl, hs => by
    have hv : v.cells.size = size := hs v (by simp)
    have hmul : (j + (vs.length + 1)) * size = j * size + size + vs.length * size := by rw [Nat.add_mul, Nat.add_mul]; omega
    simp only [List.length_cons] at hl
    simp only [List.zipIdx_cons, List.map_cons, Instr.fill]
    rw [if_neg (by rw [hv]; simp; rw [hl, hmul]; omega), fill_put_arr _ _ _ (by rw [hv, hl, hmul]; omega)]
    have hpl : (putAt cur.toList (j * size) v.cells.toList).length = cur.toList.length := putAt_length (by rw [Array.length_toList, Array.length_toList, hv, hl, hmul]; omega)
    rw [fill_all size vs (j + 1) _ (by rw [List.size_toArray, hpl, Array.length_toList, hl]; congr 1; omega) (fun x hx => hs x (by simp [hx]))]
    congr 2
    simp only [List.toList_toArray, List.flatMap_cons, ← List.append_assoc]
    congr 1
    unfold putAt
    have h1 : (cur.toList.take (j * size)).length = j * size := by rw [List.length_take, Array.length_toList, hl, hmul]; omega
    have h2 : (cur.toList.take (j * size) ++ v.cells.toList).length = (j + 1) * size := by rw [List.length_append, h1, Array.length_toList, hv, Nat.add_mul]; omega
    rw [← h2, List.take_left' rfl]
theorem zipIdx_of_range {α : Type} : ∀ (l : List (Nat × α)) (j : Nat), l.map (·.1) = List.range' j l.length → l = ((l.map (·.2)).zipIdx j).map fun x => (x.2, x.1)
  | [], j, _ => rfl
  | (i, x) :: l, j, h => by
    simp only [List.map_cons, List.length_cons, List.range'_succ, List.cons.injEq] at h
    obtain ⟨rfl, h⟩ := h
    simp only [List.map_cons, List.zipIdx_cons, List.cons.injEq, true_and]
    exact zipIdx_of_range l (i + 1) h
theorem inlE_sound (h : Rel w0 R0 F0 gh E.G n Fr R σ fps st a w) {e e' : PV} {v : Value} {l : List Nat} (he : inlE st.store e = some (e', l)) (hv : V w R σ e v []) :
    ∃ f, V w R σ e' v f ∧ f.Perm (l.flatMap fps) ∧ (∀ u ∈ v.cells, u.oneCell' = true) ∧ e' ≠ .undef ∧ v.cells.size = e'.cells.length := by
  rcases cells_Ts hv with ⟨ds, rfl, us, rfl, hc⟩ | ⟨h1, h2⟩
  · simp only [inlE] at he
    cases hi : inl st.store ds with
    | none => simp [hi] at he
    | some y =>
      simp only [hi, Option.map_some, Option.some.injEq, Prod.mk.injEq] at he
      obtain ⟨rfl, rfl⟩ := he
      obtain ⟨f, k1, k2, k3, k4⟩ := inl_sound h ds us _ _ hi hc.toTs
      refine ⟨f, by simp only [V]; exact ⟨us, rfl, k1⟩, k2, ?_, by simp, ?_⟩
      · intro u hu; exact k1.one u (by simpa [Value.cells] using hu)
      · simpa [Value.cells, PV.cells] using k1.length
  · have he' : (match inl st.store [e] with
      | some ([c'], l) => some (c', l)
      | _ => none) = some (e', l) := by
      cases e <;> first | exact he | exact absurd rfl (h2 _)
    split at he'
    · rename_i c' l' hi
      simp only [Option.some.injEq, Prod.mk.injEq] at he'
      obtain ⟨rfl, rfl⟩ := he'
      obtain ⟨f, k1, k2, k3, k4⟩ := inl_sound h [e] [v] _ _ hi (by simp only [Ts]; exact ⟨v, [], [], [], rfl, hv, ⟨rfl, rfl⟩, rfl⟩)
      have ho := k1.one v (by simp)
      simp only [Cs] at k1
      obtain ⟨u, _, f1, _, he1, _, hV, ⟨rfl, rfl⟩, rfl⟩ := k1
      obtain ⟨rfl, _⟩ : v = u ∧ True := by simpa using he1
      refine ⟨f1, hV, by simpa using k2, by rw [oneCell_cells ho]; simpa using ho, k4 _ (by simp), ?_⟩
      rw [oneCell_cells ho]
      cases c' with
      | agg cs => simp only [V] at hV; obtain ⟨us, rfl, _⟩ := hV; simp [Value.oneCell'] at ho
      | _ => rfl
    · cases he'
theorem inlEs_sound (h : Rel w0 R0 F0 gh E.G n Fr R σ fps st a w) : ∀ (es : List PV) (vs : List Value) (es' : List PV) (l : List Nat), inlEs st.store es = some (es', l) → Ts w R σ es vs [] →
    ∃ f, f.Perm (l.flatMap fps) ∧ vs.map (·.cells.size) = es'.map (·.cells.length) ∧ ∀ sz, (∀ e ∈ es', e.cells.length = sz) → Es w R σ sz es' (vs.flatMap fun v => v.cells.toList) f
  | [], vs, es', l, he, ht => by
    simp only [inlEs, Option.some.injEq, Prod.mk.injEq] at he
    obtain ⟨rfl, rfl⟩ := he
    simp only [Ts] at ht
    obtain ⟨rfl, _⟩ := ht
    exact ⟨[], by simp, rfl, fun sz _ => by simp [Es]⟩
  | e :: es, vs, es', l, he, ht => by
    simp only [Ts] at ht
    obtain ⟨v, vs', f1, f2, rfl, hv, hts, hf⟩ := ht
    obtain ⟨rfl, rfl⟩ : f1 = [] ∧ f2 = [] := by simpa using hf.symm
    simp only [inlEs] at he
    split at he
    · rename_i e1 l1 es1 l2 h1 h2
      simp only [Option.some.injEq, Prod.mk.injEq] at he
      obtain ⟨rfl, rfl⟩ := he
      obtain ⟨f, k1, k2, k3, k4, k5⟩ := inlE_sound h h1 hv
      obtain ⟨g, m1, m2, m3⟩ := inlEs_sound h es vs' es1 l2 h2 hts
      refine ⟨f ++ g, by rw [List.flatMap_append]; exact k2.append m1, by simp [k5, m2], fun sz hsz => ?_⟩
      simp only [Es, List.flatMap_cons]
      exact ⟨v, _, f, g, rfl, by rw [k5]; exact hsz e1 (by simp), k3, k4, k1, m3 sz (fun x hx => hsz x (by simp [hx])), rfl⟩
    · cases he
theorem evs_Ts (h : Rel w0 R0 F0 gh E.G n Fr R σ fps st a w) : ∀ (xs : List Operand), Ts w R σ (xs.map (ev E st)) (xs.map a.eval) []
  | [] => by simp [Ts]
  | x :: xs => by simp only [List.map_cons, Ts]; exact ⟨_, _, [], [], rfl, ev_V h x, evs_Ts h xs, rfl⟩
theorem out_buildSlice (hT : TyOk P E.T) (h : Rel w0 R0 F0 gh E.G n Fr R σ fps st a w) {o : Oper} (hd : dstOk n o.dst) {t len : Nat} {parts : Array (Nat × Operand)} (ho : o.op = .buildSlice t len parts) {p : Prop} {e : Eff} (he : eff E st o.op = some (p, e)) (hp : p) : Out P E w0 R0 F0 gh n Fr st o a w e := by
  rw [ho] at he
  simp only [eff] at he
  split at he
  · rename_i el sz by_ zero hTt
    split at he
    · rename_i i hTe
      split at he
      · rename_i es rem hi
        split at he
        · rename_i hcond
          obtain ⟨c1, c2, c3⟩ := hcond
          simp only [newRoot] at he
          split at he
          · rename_i hnd
            simp only [Option.some.injEq, Prod.mk.injEq] at he
            obtain ⟨_, rfl⟩ := he
            have ht : P.underlying t = some (.slice el) := (hT t _ hTt).1
            obtain ⟨_, ti, z, g1, g2, g3, g4, g5, g6, g7, g8, g9⟩ := hT el i hTe
            have hm : parts.toList.map (fun x => ev E st x.2) = (parts.toList.map (·.2)).map (ev E st) := by simp
            rw [hm] at hi
            obtain ⟨f, k1, k2, k3⟩ := inlEs_sound h _ _ es rem hi (evs_Ts h _)
            have hall : ∀ e ∈ es, e.cells.length = i.size := by
              intro e he
              have := List.all_eq_true.1 c2 e he
              simp at this
              exact this.1
            have hes := k3 i.size hall
            have hlen : parts.toList.length = len := by have := congrArg List.length c1; simpa using this
            have hesl : es.length = len := by have := congrArg List.length k2; simpa [hlen] using this.symm
            have hvsz : ∀ v ∈ (parts.toList.map (·.2)).map a.eval, v.cells.size = i.size := by
              intro v hv
              have hmem : v.cells.size ∈ ((parts.toList.map (·.2)).map a.eval).map (·.cells.size) := List.mem_map_of_mem hv
              rw [k2] at hmem
              obtain ⟨x, hx, hxe⟩ := List.mem_map.1 hmem
              rw [← hxe]; exact hall x hx
            have hzip := zipIdx_of_range (parts.toList.map fun x => (x.1, a.eval x.2)) 0 (by rw [List.map_map]; simp only [List.length_map, hlen]; rw [← List.range_eq_range', ← c1]; rfl)
            have hfill := fill_all i.size ((parts.toList.map (·.2)).map a.eval) 0 ((Array.range (len * i.size)).map ((if len * i.size = 0 then #[] else z.cells)[· % (if len * i.size = 0 then #[] else z.cells).size]!)) (by simp [hlen]) hvsz
            have hvals : (parts.toList.map fun x => (x.1, a.eval x.2)).map (·.2) = (parts.toList.map (·.2)).map a.eval := by simp
            rw [hvals] at hzip
            rw [← hzip] at hfill
            simp only [Nat.zero_mul, List.take_zero, List.nil_append] at hfill
            have hus : (((parts.toList.map (·.2)).map a.eval).flatMap fun v => v.cells.toList).length = len * i.size := by rw [hes.length, hesl]
            refine out_row h hd hnd hes k1 (v := .slice (some ⟨w.heap.size, 0, none⟩) len len) (w' := w.alloc (.cells (((parts.toList.map (·.2)).map a.eval).flatMap fun v => v.cells.toList).toArray el)) ?_ rfl ?_ (fun b hb => heap_old w _ b hb) (by simp) ⟨rfl, fun _ => Nat.le_refl _⟩ rfl rfl ?_
            · rw [hesl]
              exact Row.new w (Nat.le_refl _) (by rw [maxLen_val]; have : len ≤ len * i.size := Nat.le_mul_of_pos_right _ g6; omega) (by simpa using hus) (by rw [List.toList_toArray, ← hus, List.take_length])
            · intro b hb
              simp [blkOf] at hb
              subst hb
              simp
            · have hbig : ¬ 2 ^ 24 < len * i.size := by omega
              by_cases h0 : len * i.size = 0
              · simp only [h0, if_true] at hfill
                simp only [execOp, ho, Instr.buildSlice, run_underlying ht, Sem.run_bind, Result.andThen_ok, sizeOf, typeInfo, run_program, g1, Sem.run_pure, g3, Sem.run_ite, hbig, h0, if_false, if_true, gt_iff_lt]
                simp only [Array.toList_map, hfill]
                simp [newRow, h0]
              · simp only [h0, if_false] at hfill
                simp only [execOp, ho, Instr.buildSlice, run_underlying ht, Sem.run_bind, Result.andThen_ok, sizeOf, typeInfo, run_program, g1, Sem.run_pure, g3, Sem.run_ite, hbig, h0, if_false, zeroValue, g2, gt_iff_lt]
                simp only [Array.toList_map, hfill]
                simp [newRow, h0]
          · cases he
        · cases he
      · cases he
    · cases he
  · cases he
end
end Go.Proofs.YtmanllfmgghadaaGreatDoor.PVE
namespace Go.Proofs.YtmanllfmgghadaaGreatDoor.PVE
open PV
section
variable {P : Program} {E : Env} {w0 : World} {R0 : Nat → Prop} {F0 : List Nat} {gh : Nat → Value} {n : Nat} {Fr : Nat → Prop} {R : Nat → Prop} {σ : Nat → Option Hd} {fps : Nat → List Nat} {st : St} {a : Act} {w : World} [Dm]
theorem run_isAgg (hT : TyOk P E.T) {t : Nat} {i : TyI} (hi : E.T t = some i) (w : World) : (isAgg t).run P w = .ok (isAggT i) w := by
  have hd := (hT t i hi).1
  unfold isAggT
  cases hdd : i.d with
  | struct fs => rw [hdd] at hd; obtain ⟨fds, hu, _⟩ := hd; simp [isAgg, run_underlying hu]
  | other =>
    rw [hdd] at hd
    obtain ⟨d, hu, hn⟩ := hd
    cases d <;> simp_all [isAgg, run_underlying hu]
  | _ => rw [hdd] at hd; simp [isAgg, run_underlying hd]
theorem run_loadAt (hT : TyOk P E.T) {t : Nat} {i : TyI} (hi : E.T t = some i) {ad : Addr} {us : List Value} (hl : us.length = i.size) (hc : ∀ j u, us[j]? = some u → w.cell? (ad.add j) = some u) :
    (Instr.loadAt t (.pointer (some ad))).run P w = .ok (if isAggT i then .agg us.toArray else us.headD Go.undef) w := by
  obtain ⟨_, ti, z, g1, g2, g3, g4, g5, g6, g7, g8, g9⟩ := hT t i hi
  have hag := run_isAgg hT hi w
  cases hb : isAggT i with
  | true =>
    rw [hb] at hag
    have hload := run_loadCells_list (P := P) w ad us hc
    rw [hl] at hload
    simp [Instr.loadAt, Instr.sureAddr, loadVar, hag, sizeOf, typeInfo, g1, g3, hload]
  | false =>
    rw [hb] at hag
    have h1 : i.size = 1 := by rw [← g5, oneCell_cells (g8 hb)]; rfl
    match us, hl with
    | [u], _ =>
      have := hc 0 u rfl
      have had : ad.add 0 = ad := by simp [Addr.add]
      rw [had] at this
      simp [Instr.loadAt, Instr.sureAddr, loadVar, hag, this]
    | [], hl => simp [h1] at hl
    | _ :: _ :: _, hl => simp [h1] at hl
theorem Cs.take_ {cs : List PV} {us : List Value} (h : Cs w R σ cs us []) (k : Nat) : Cs w R σ (cs.take k) (us.take k) [] := by
  by_cases hk : k ≤ cs.length
  · have hs : cs = cs.take k ++ cs.drop k := (List.take_append_drop _ _).symm
    rw [hs] at h
    obtain ⟨u1, u2, f1, f2, rfl, hf, h1, h2⟩ := Cs.append.1 h
    obtain ⟨rfl, rfl⟩ : f1 = [] ∧ f2 = [] := by simpa using hf.symm
    have hl : u1.length = k := by rw [h1.length]; simp; omega
    rw [← hl, List.take_left' rfl, hl]
    exact h1
  · rw [List.take_of_length_le (by omega), List.take_of_length_le (by rw [h.length]; omega)]; exact h
theorem Cs.drop_ {cs : List PV} {us : List Value} (h : Cs w R σ cs us []) (k : Nat) : Cs w R σ (cs.drop k) (us.drop k) [] := by
  by_cases hk : k ≤ cs.length
  · have hs : cs = cs.take k ++ cs.drop k := (List.take_append_drop _ _).symm
    rw [hs] at h
    obtain ⟨u1, u2, f1, f2, rfl, hf, h1, h2⟩ := Cs.append.1 h
    obtain ⟨rfl, rfl⟩ : f1 = [] ∧ f2 = [] := by simpa using hf.symm
    have hl : u1.length = k := by rw [h1.length]; simp; omega
    rw [← hl, List.drop_left' rfl, hl]
    exact h2
  · rw [List.drop_eq_nil_of_le (by omega), List.drop_eq_nil_of_le (by rw [h.length]; omega)]; simp [Cs]
theorem loaded_V {i : TyI} {cs : List PV} {us : List Value} (hl : us.length = i.size) (h : Cs w R σ cs us []) (h1 : isAggT i = false → i.size = 1) :
    V w R σ (if isAggT i then .agg cs else cs.headD .undef) (if isAggT i then .agg us.toArray else us.headD Go.undef) [] := by
  cases hb : isAggT i with
  | true => simp only [if_true, V]; exact ⟨us, rfl, h⟩
  | false =>
    have := h1 hb
    match cs, us, h with
    | [], [], _ => simp [this] at hl
    | c :: cs, us, h =>
      simp only [Cs] at h
      obtain ⟨u, us', f1, f2, rfl, _, hv, _, hf⟩ := h
      obtain ⟨rfl, rfl⟩ : f1 = [] ∧ f2 = [] := by simpa using hf.symm
      simpa using hv
theorem size_one (hT : TyOk P E.T) {t : Nat} {i : TyI} (hi : E.T t = some i) : isAggT i = false → i.size = 1 := by
  obtain ⟨_, ti, z, g1, g2, g3, g4, g5, g6, g7, g8, g9⟩ := hT t i hi
  intro hb
  rw [← g5, oneCell_cells (g8 hb)]; rfl
theorem cellOk_fp {c : PV} {u : Value} {f : List Nat} (hk : c.cellOk = true) (hs : ∀ sz es, c ≠ .slo sz es) (h : V w R σ c u f) : f = [] := by
  cases c <;> simp [PV.cellOk] at hk <;> simp only [V] at h
  · exact h
  · exact h.2
  · exact h.2
  · exact h.2
  · exact h.2
  · exact h.2.2
  · exact h.2
  · exact h.1
  · exact absurd rfl (hs _ _)
  · exact h.1
  · exact h.1
  · exact h.1
  · obtain ⟨us, _, hf, _⟩ := h; exact hf
  · exact h.2
  · exact h.2
  · exact h.1
theorem flatMap_same {f g : Nat → List Nat} : ∀ {l : List Nat}, (∀ r ∈ l, f r = g r) → l.flatMap f = l.flatMap g
  | [], _ => rfl
  | x :: l, h => by rw [List.flatMap_cons, List.flatMap_cons, h x (by simp), flatMap_same fun r hr => h r (by simp [hr])]
theorem det_sound : ∀ (cs : List PV) (us : List Value) (f : List Nat) (b o : Nat) (σ : Nat → Option Hd), (∀ r, b ≤ r → r < b + (det cs b o).2.1.length → σ r = none) → cs.all PV.cellOk = true → Cs w R σ cs us f →
    ∃ (σ' : Nat → Option Hd) (fpN : Nat → List Nat), Le σ σ' ∧ (∀ r, (r < b ∨ b + (det cs b o).2.1.length ≤ r) → σ' r = σ r) ∧ Cs w R σ' (det cs b o).1 us [] ∧
      (det cs b o).2.1.map (·.1) = List.range' b (det cs b o).2.1.length ∧ (∀ x ∈ (det cs b o).2.1, ∃ k, σ' x.1 = some k ∧ V w R σ' x.2 k.hdr (fpN x.1) ∧ RootTy k x.2) ∧
      f = ((det cs b o).2.1.map (·.1)).flatMap fpN ∧ (det cs b o).1.length = cs.length ∧ ((∀ c ∈ cs, c ≠ .undef) → ∀ c ∈ (det cs b o).1, c ≠ .undef)
  | [], us, f, b, o, σ, hf, hk, h => by
    simp only [Cs] at h
    obtain ⟨rfl, rfl⟩ := h
    exact ⟨σ, fun _ => [], Le.refl _, fun _ _ => rfl, by simp [det, Cs], by simp [det], by simp [det], by simp [det], by simp [det], by simp [det]⟩
  | c :: cs, us, f, b, o, σ, hf, hk, h => by
    simp only [Cs] at h
    obtain ⟨u, us', f1, f2, rfl, ho, hv, hc, rfl⟩ := h
    simp only [List.all_cons, Bool.and_eq_true] at hk
    by_cases hs : ∃ sz es, c = .slo sz es
    · obtain ⟨sz, es, rfl⟩ := hs
      have hle : Le σ (upd σ b (some ⟨u, sz⟩)) := by
        intro r k hr
        have : r ≠ b := by rintro rfl; rw [hf _ (Nat.le_refl _) (by simp only [det, List.length_cons]; omega)] at hr; cases hr
        rw [upd_other _ _ _ this]; exact hr
      obtain ⟨σ', fpN, i1, i2, i3, i4, i5, i6, i7, i8⟩ := det_sound cs us' f2 (b + 1) (o + 1) (upd σ b (some ⟨u, sz⟩)) (fun r hr hr2 => by rw [upd_other _ _ _ (by omega)]; exact hf r (by omega) (by simp only [det, List.length_cons]; omega)) hk.2
        (Cs.mono (fun _ h => h) hle (fun _ _ => rfl) _ _ _ (fun _ _ => rfl) hc)
      have hb : σ' b = some ⟨u, sz⟩ := by rw [i2 b (.inl (by omega))]; exact upd_same _ _ _
      refine ⟨σ', fun r => if r = b then f1 else fpN r, hle.trans i1, ?_, ?_, ?_, ?_, ?_, by simp [det, i7], ?_⟩
      · intro r hr
        simp only [det, List.length_cons] at hr
        rw [i2 r (by omega), upd_other _ _ _ (by omega)]
      · simp only [det, Cs, V]
        exact ⟨u, us', [], [], rfl, ho, ⟨rfl, ⟨u, sz⟩, hb, rfl, ho⟩, i3, rfl⟩
      · simp only [det, List.map_cons, List.length_cons, List.range'_succ, i4]
      · intro x hx
        simp only [det, List.mem_cons] at hx
        rcases hx with rfl | hx
        · exact ⟨⟨u, sz⟩, hb, by simpa using V.mono (fun _ h => h) (hle.trans i1) (fun _ _ => rfl) _ _ _ (fun _ _ => rfl) hv, rfl⟩
        · have hne : x.1 ≠ b := by
            have : x.1 ∈ List.range' (b + 1) (det cs (b + 1) (o + 1)).2.1.length := by rw [← i4]; exact List.mem_map_of_mem hx
            simp at this; omega
          simp only [hne, if_false]
          exact i5 x hx
      · simp only [det, List.map_cons, List.flatMap_cons, if_true]
        rw [i6]
        congr 1
        refine flatMap_same fun r hr => ?_
        rw [i4] at hr
        have : r ≠ b := by simp at hr; omega
        simp [this]
      · intro hu c hc
        simp only [det, List.mem_cons] at hc
        rcases hc with rfl | hc
        · simp
        · exact i8 (fun x hx => hu x (by simp [hx])) c hc
    · have hdet : det (c :: cs) b o = (c :: (det cs b (o + 1)).1, (det cs b (o + 1)).2.1, (det cs b (o + 1)).2.2) := by
        cases c <;> first | rfl | exact absurd ⟨_, _, rfl⟩ hs
      have hf1 := cellOk_fp hk.1 (fun sz es he => hs ⟨sz, es, he⟩) hv
      subst hf1
      obtain ⟨σ', fpN, i1, i2, i3, i4, i5, i6, i7, i8⟩ := det_sound cs us' f2 b (o + 1) σ (by rw [hdet] at hf; exact hf) hk.2 hc
      refine ⟨σ', fpN, i1, by rw [hdet]; exact i2, ?_, by rw [hdet]; exact i4, by rw [hdet]; exact i5, by rw [hdet]; exact i6, by rw [hdet]; simp [i7], ?_⟩
      · rw [hdet]
        simp only [Cs]
        exact ⟨u, us', [], [], rfl, ho, V.mono (fun _ h => h) i1 (fun _ _ => rfl) _ _ _ (fun _ _ => rfl) hv, i3, rfl⟩
      · rw [hdet]
        intro hu x hx
        rcases List.mem_cons.1 hx with rfl | hx
        · exact hu _ (by simp)
        · exact i8 (fun y hy => hu y (by simp [hy])) x hx
theorem addr_root (h : Rel w0 R0 F0 gh E.G n Fr R σ fps st a w) {r k off : Nat} {u : Value} (hv : V w R σ (.addr r k off) u []) {rt : Root} (hr : st.store r = some rt) :
    ∃ hh b, σ r = some hh ∧ blkOf hh.hdr = some b ∧ u = .pointer (some ⟨b, k * hh.sz + off, none⟩) ∧ V w R σ rt.pv hh.hdr (fps r) ∧ RootTy hh rt.pv := by
  simp only [V] at hv
  obtain ⟨_, hh, b, h1, h2, rfl⟩ := hv
  obtain ⟨hh', k1, k2, k3⟩ := h.rt r rt hr
  obtain rfl : hh = hh' := by rw [h1] at k1; exact Option.some.inj k1
  exact ⟨hh, b, h1, h2, rfl, k2, k3⟩
theorem cur_cells {b : Nat} {cur : Array Value} {et lo hi : Nat} (hg : w.heap[b]? = some (.cells cur et (lo, hi))) {o m : Nat} {old : List Value} (hl : old.length = m) (hcur : ∀ j, j < m → cur[o + j]? = old[j]?) :
    ∀ j u, old[j]? = some u → w.cell? ((⟨b, o, none⟩ : Addr).add j) = some u := by
  intro j u hu
  have hj : j < m := by rw [← hl]; exact (List.getElem?_eq_some_iff.1 hu).1
  rw [add_lit', cell_of_row w b (o + j) cur et (lo, hi) hg, hcur j hj, hu]
theorem out_load (hT : TyOk P E.T) (h : Rel w0 R0 F0 gh E.G n Fr R σ fps st a w) {o : Oper} (hd : dstOk n o.dst) {t : Nat} {x : Operand} (ho : o.op = .load t x) {p : Prop} {e : Eff} (he : eff E st o.op = some (p, e)) (hp : p) : Out P E w0 R0 F0 gh n Fr st o a w e := by
  rw [ho] at he
  simp only [eff] at he
  split at he
  case h_2 => cases he
  rename_i i hi
  have hx := ev_V h x
  have hs1 := size_one hT hi
  obtain ⟨_, ti, z, g1, g2, g3, g4, g5, g6, g7, g8, g9⟩ := hT t i hi
  have hpro : ∀ cs : List PV, loadPro st i cs = some (p, e) → V w R σ (.pro cs) (a.eval x) [] → Out P E w0 R0 F0 gh n Fr st o a w e := by
    intro cs he hx
    unfold loadPro at he
    split at he
    case isFalse => cases he
    rename_i hsz
    simp only [V] at hx
    obtain ⟨_, ad, us, hu, hR, hc, hcs⟩ := hx
    have hl : (us.take i.size).length = i.size := by rw [List.length_take, hcs.length]; omega
    have hc' : ∀ j u, (us.take i.size)[j]? = some u → w.cell? (ad.add j) = some u := by
      intro j u hu
      rw [List.getElem?_take] at hu
      split at hu
      · exact hc j u hu
      · cases hu
    have hrun := run_loadAt (w := w) hT hi hl hc'
    have hV := loaded_V hl (hcs.take_ i.size) hs1
    have hex : (execOp a.eval o).run P w = .ok (.value (if isAggT i then .agg (us.take i.size).toArray else (us.take i.size).headD Go.undef)) w := by
      simp only [execOp, ho, Sem.run_bind, hu, hrun, Result.andThen_ok, Sem.run_pure]
    have hval : plainE st (if isAggT i then .agg (cs.take i.size) else (cs.take i.size).headD .undef) = some (p, e) := by
      cases hb : isAggT i with
      | true => rw [hb] at he; simpa using he
      | false =>
        rw [hb] at he
        have := hs1 hb
        cases cs with
        | nil => simp at he
        | cons c cs => rw [this]; simpa using he
    exact out_plain h hd hval hV hex
  cases hev : ev E st x <;> rw [hev] at he hx <;> simp only [loadE] at he <;> try (cases he; done)
  case pro cs => exact hpro cs he hx
  case addr r k off =>
    split at he
    · cases he
    · rename_i cs links hr
      split at he
      case isFalse => cases he
      rename_i hk0
      subst hk0
      refine hpro _ he ?_
      obtain ⟨hh, b, k1, k2, hu, k3, k4⟩ := addr_root h hx hr
      simp only [RootTy] at k4
      obtain ⟨b', hb'⟩ := k4
      simp only [V] at k3
      obtain ⟨_, ad, us, had, hR, hc, hcs⟩ := k3
      rw [hb'] at k2 had
      simp only [blkOf, Option.some.injEq] at k2
      simp only [Value.pointer.injEq, Option.some.injEq] at had
      subst k2 had
      rw [hu]
      simp only [V]
      refine ⟨trivial, _, us.drop off, rfl, hR, fun j u hj => ?_, hcs.drop_ _⟩
      rw [List.getElem?_drop] at hj
      have := hc _ u hj
      rw [add_lit'] at this ⊢
      simpa [Nat.add_assoc] using this
    rename_i rt hnp hr
    split at he
    · cases he
    rename_i el hel
    split at he
    case isFalse => cases he
    rename_i hsz
    obtain ⟨hsz, hok⟩ := hsz
    obtain ⟨hh, b, k1, k2, hu, k3, k4⟩ := addr_root h hx hr
    obtain ⟨b', cur, et, lo, hi', f1, f0, f2, old, m1, m2, m3, m4, m5, m6, m7, m8, m9, hput⟩ := focus k3 k4 hel hsz g6
    obtain rfl : b = b' := by rw [k2] at m1; exact Option.some.inj m1
    have hrun := run_loadAt (w := w) hT hi m5 (cur_cells m2 m5 m8)
    have hex : (execOp a.eval o).run P w = .ok (.value (if isAggT i then .agg old.toArray else old.headD Go.undef)) w := by
      simp only [execOp, ho, Sem.run_bind, hu, hrun, Result.andThen_ok, Sem.run_pure]
    split at he
    · -- nothing is nested
      rename_i hemp
      have hnil : (det ((el.cells.drop off).take i.size) st.next off).2.1 = [] := by simpa using hemp
      obtain ⟨σ', fpN, i1, i2, i3, i4, i5, i6, i7, i8⟩ := det_sound _ old f0 st.next off σ (fun r hr hr2 => by rw [hnil] at hr2; simp at hr2; omega) hok m7
      have hcs : Cs w R σ (det ((el.cells.drop off).take i.size) st.next off).1 old [] := by
        have hσ : σ' = σ := by funext r; exact i2 r (by rw [hnil]; simp; omega)
        rw [hσ] at i3; exact i3
      exact out_plain h hd he (loaded_V m5 hcs hs1) hex
    · -- roots are taken out
      simp only [Option.some.injEq, Prod.mk.injEq] at he
      obtain ⟨_, rfl⟩ := he
      intro hFF
      obtain ⟨σ', fpN, i1, i2, i3, i4, i5, i6, i7, i8⟩ := det_sound _ old f0 st.next off σ (fun r hr hr2 => (h.fr r (hFF r hr hr2)).1) hok m7
      have hrlt : ¬ (st.next ≤ r ∧ r < st.next + (det ((el.cells.drop off).take i.size) st.next off).2.1.length) := by
        rintro ⟨hge, hlt⟩
        rw [(h.fr r (hFF r hge hlt)).2] at hr; cases hr
      have hcur : putAt cur.toList (k * hh.sz + off) old = cur.toList := putAt_self (by intro j hj; rw [Array.getElem?_toList]; exact m8 j (by omega))
      have hV := hput (w' := w) (R' := R) (σ' := σ') (fun _ h => h) i1 (fun _ _ => rfl) (fun _ _ => rfl) (by rw [hcur]; simpa using m2) i3 (by rw [i7]; simp; omega) (by
        by_cases hag : ∃ x, el = .agg x
        · exact .inl hag
        · refine .inr (i8 ?_)
          have hcell : el.cells = [el] := by cases el <;> first | rfl | exact absurd ⟨_, rfl⟩ hag
          intro c hc
          have : c ∈ el.cells := List.mem_of_mem_drop (List.mem_of_mem_take hc)
          rw [hcell] at this
          simp at this
          rw [this]; exact m9)
      have hids : ((det ((el.cells.drop off).take i.size) st.next off).2.1.map (fun x => ((x.1, (⟨x.2, []⟩ : Root)) : Nat × Root))).map (·.1) = List.range' st.next (det ((el.cells.drop off).take i.size) st.next off).2.1.length := by
        rw [List.map_map]; exact i4
      have hkeys : (((r, (⟨rt.pv.put k off (det ((el.cells.drop off).take i.size) st.next off).1, (det ((el.cells.drop off).take i.size) st.next off).2.2.map (fun o => (k, o)) ++ rt.links⟩ : Root)) : Nat × Root) :: (det ((el.cells.drop off).take i.size) st.next off).2.1.map (fun x => (x.1, (⟨x.2, []⟩ : Root)))).map (·.1) = r :: List.range' st.next (det ((el.cells.drop off).take i.size) st.next off).2.1.length := by
        rw [List.map_cons, hids]
      let fpN' : Nat → List Nat := fun q => if q = r then b :: f1 ++ [] ++ f2 else fpN q
      have hflat : (r :: List.range' st.next (det ((el.cells.drop off).take i.size) st.next off).2.1.length).flatMap fpN' = (b :: f1 ++ [] ++ f2) ++ f0 := by
        rw [List.flatMap_cons, i6, i4]
        simp only [fpN', if_true]
        congr 1
        refine flatMap_same fun q hq => ?_
        have : q ≠ r := by rintro rfl; simp at hq; exact hrlt hq
        simp [this]
      have hperm : ((b :: f1 ++ [] ++ f2) ++ f0).Perm (fps r) := by
        rw [m6]
        simp only [List.append_nil, List.cons_append, List.append_assoc]
        exact List.Perm.cons _ (List.Perm.append_left _ List.perm_append_comm)
      have hres := h.change (w' := w) (R' := R) (σ' := σ') (e := ⟨if isAggT i then PV.agg (det ((el.cells.drop off).take i.size) st.next off).1 else (det ((el.cells.drop off).take i.size) st.next off).1.headD .undef, [],
          (r, ⟨rt.pv.put k off (det ((el.cells.drop off).take i.size) st.next off).1, (det ((el.cells.drop off).take i.size) st.next off).2.2.map (fun o => (k, o)) ++ rt.links⟩) :: (det ((el.cells.drop off).take i.size) st.next off).2.1.map (fun x => (x.1, ⟨x.2, []⟩)),
          st.next + (det ((el.cells.drop off).take i.size) st.next off).2.1.length⟩) (dst := o.dst) (u := if isAggT i then .agg old.toArray else old.headD Go.undef) hd fpN'
        (by rw [hkeys, List.nodup_cons]; exact ⟨by simpa using hrlt, List.nodup_range'⟩) (fun _ h => h) (fun b hb => ⟨(h.Rb b hb).1, .inl hb⟩) i1 (fun _ _ => rfl) (fun _ _ _ _ _ => rfl)
        (by
          intro q x hx
          rcases List.mem_cons.1 hx with hx | hx
          · simp only [Prod.mk.injEq] at hx
            obtain ⟨rfl, rfl⟩ := hx
            exact ⟨hh, i1 _ _ k1, by simpa [fpN'] using hV, put_ty k4 _ _⟩
          · obtain ⟨y, hy, he⟩ := List.mem_map.1 hx
            simp only [Prod.mk.injEq] at he
            obtain ⟨rfl, rfl⟩ := he
            obtain ⟨kk, q1, q2, q3⟩ := i5 y hy
            have hmem : y.1 ∈ List.range' st.next (det ((el.cells.drop off).take i.size) st.next off).2.1.length := by rw [← i4]; exact List.mem_map_of_mem hy
            have : y.1 ≠ r := by intro hyr; rw [hyr] at hmem; simp at hmem; exact hrlt hmem
            exact ⟨kk, q1, by simpa [fpN', this] using q2, q3⟩)
        (by rw [hkeys, hflat]; exact hperm.nodup_iff.2 (h.nd r))
        (by
          intro q hq b' hb'
          rw [hkeys] at hq
          have hin : b' ∈ fps r := hperm.mem_iff.1 (by rw [← hflat]; exact List.mem_flatMap.2 ⟨q, hq, hb'⟩)
          obtain ⟨z1, z2, _⟩ := h.fb r b' hin
          exact ⟨z1, z2, .inl ⟨r, by simp, hin⟩⟩)
        (fun _ _ _ => rfl) (Nat.le_refl _) (.refl _) rfl rfl
        (fun q hq => by rw [i2 q (by have := hq.2; simp only [not_and, Nat.not_lt] at this; omega)]; exact (h.fr q hq.1).1)
        (by intro q hq; rw [hkeys] at hq; rcases List.mem_cons.1 hq with rfl | hq; exact .inl ⟨_, k1⟩; exact .inr (by simpa using hq))
        (loaded_V m5 i3 hs1)
      exact ⟨_, _, w, R, σ', _, hex, .inl rfl, hres⟩
end
end Go.Proofs.YtmanllfmgghadaaGreatDoor.PVE
namespace Go.Proofs.YtmanllfmgghadaaGreatDoor.PVE
open PV
section
variable {P : Program} {E : Env} {w0 : World} {R0 : Nat → Prop} {F0 : List Nat} {gh : Nat → Value} {n : Nat} {Fr : Nat → Prop} {R : Nat → Prop} {σ : Nat → Option Hd} {fps : Nat → List Nat} {st : St} {a : Act} {w : World} [Dm]
theorem hasUndef_not : ∀ {cs : List PV}, hasUndef cs = false → ∀ c ∈ cs, c ≠ .undef
  | [], _, c, hc => by simp at hc
  | x :: cs, h, c, hc => by
    rcases List.mem_cons.1 hc with rfl | hc
    · rintro rfl; simp [hasUndef] at h
    · exact hasUndef_not (cs := cs) (by cases x <;> simp_all [hasUndef]) c hc
theorem storeC_cells (h : Rel w0 R0 F0 gh E.G n Fr R σ fps st a w) {i : TyI} {r : Nat} {e : PV} {v : Value} {cs : List PV} {l : List Nat} (he : storeC st i r e.cells = some (cs, l)) (hv : V w R σ e v []) :
    ∃ f, Cs w R σ cs v.cells.toList f ∧ f.Perm (l.flatMap fps) ∧ cs.length = e.cells.length ∧ ∀ c ∈ cs, c ≠ .undef := by
  unfold storeC at he
  split at he
  · rename_i hc
    simp only [Option.some.injEq, Prod.mk.injEq] at he
    obtain ⟨rfl, rfl⟩ := he
    simp only [Bool.and_eq_true, Bool.not_eq_true'] at hc
    refine ⟨[], ?_, by simp, rfl, hasUndef_not hc.2⟩
    rcases cells_Ts hv with ⟨ds, rfl, us, rfl, hc⟩ | ⟨h1, h2⟩
    · simpa [Value.cells, PV.cells] using hc
    · rw [h1] at hc ⊢
      have ho : v.oneCell' = true := by
        cases e <;> simp [hasOwn] at hc
        simp only [V] at hv; obtain ⟨_, k, _, rfl, ho⟩ := hv; exact ho
      rw [oneCell_cells ho]
      simp only [Cs]
      exact ⟨v, [], [], [], rfl, ho, hv, ⟨rfl, rfl⟩, rfl⟩
  · exact inl_cellsZ h he hv
theorem out_store (hT : TyOk P E.T) (h : Rel w0 R0 F0 gh E.G n Fr R σ fps st a w) {o : Oper} (hd : dstOk n o.dst) {t : Nat} {x y : Operand} (ho : o.op = .store t x y) (hnv : ∀ q x0 y0, ev E st y ≠ .vw q x0 y0) {p : Prop} {e : Eff} (he : eff E st o.op = some (p, e)) (hp : p) : Out P E w0 R0 F0 gh n Fr st o a w e := by
  rw [ho] at he
  simp only [eff] at he
  split at he
  case h_2 => cases he
  rename_i i hi
  have hx := ev_V h x
  have hy := ev_V h y
  obtain ⟨_, ti, z, g1, g2, g3, g4, g5, g6, g7, g8, g9⟩ := hT t i hi
  cases hev : ev E st x <;> rw [hev] at he hx <;> simp only [storeE] at he <;> try (cases he; done)
  rename_i r k off
  rw [storeX_not hnv] at he
  unfold storeO at he
  split at he
  case h_2 => cases he
  rename_i rt cs rem hr hinl
  split at he
  · cases he
  rename_i el hel
  split at he
  case isFalse => cases he
  rename_i hcond
  obtain ⟨hsz, hcl, hnd⟩ := hcond
  simp only [Option.some.injEq, Prod.mk.injEq] at he
  obtain ⟨_, rfl⟩ := he
  obtain ⟨hh, b, k1, k2, hu, k3, k4⟩ := addr_root h hx hr
  obtain ⟨b', cur, et, lo, hi', f1, f0, f2, old, m1, m2, m3, m4, m5, m6, m7, m8, m9, hput⟩ := focus k3 k4 hel hsz g6
  obtain rfl : b = b' := by rw [k2] at m1; exact Option.some.inj m1
  obtain ⟨f, q1, q2, q3, q4⟩ := storeC_cells h hinl hy
  have hvl : (a.eval y).cells.toList.length = i.size := by rw [q1.length, hcl]
  have hnd' := List.nodup_cons.1 hnd
  let w' := w.setRow b (putAt cur.toList (k * hh.sz + off) (a.eval y).cells.toList).toArray
  have hoth : ∀ c, c ≠ b → w'.heap[c]? = w.heap[c]? := fun c hc => setRow_other w b c _ hc
  have hbr : b ∈ fps r := by rw [m6]; simp
  have hbR : ¬ R b := (h.fb r b hbr).2.1
  have hmem : ∀ c ∈ f, ∃ x ∈ rem, c ∈ fps x := fun c hc => by
    obtain ⟨x, hx, hbx⟩ := List.mem_flatMap.1 (q2.mem_iff.1 hc); exact ⟨x, hx, hbx⟩
  have hcs' : Cs w' R σ cs (a.eval y).cells.toList f := Cs.mono (fun _ h => h) (Le.refl _) (fun c hc => hoth c (by rintro rfl; exact hbR hc)) _ _ _ (fun c hc => by
    obtain ⟨x, hx, hcx⟩ := hmem c hc
    exact hoth c (by rintro rfl; exact h.dj r x (by rintro rfl; exact hnd'.1 hx) c hbr hcx)) q1
  have hnd6 : (b :: f1 ++ f0 ++ f2).Nodup := by rw [← m6]; exact h.nd r
  have hV := hput (w' := w') (R' := R) (σ' := σ) (fun _ h => h) (Le.refl _) (fun c hc => hoth c (by rintro rfl; exact hbR hc)) (fun c hc => hoth c (by
      rintro rfl
      simp only [List.cons_append, List.nodup_cons] at hnd6
      exact hnd6.1 (by simp at hc ⊢; rcases hc with hc | hc <;> simp [hc])))
    (setRow_heap w b cur _ et _ m2) hcs' hcl (.inr q4)
  have hrun : (execOp a.eval o).run P w = .ok .skip w' := by
    have hsc := run_storeRow (P := P) b (k * hh.sz + off) et lo hi' (a.eval y).cells.toList 0 cur w m2 m3 (by rw [hvl]; omega) q1.one
    simp only [Nat.add_zero] at hsc
    have hne : (a.eval y).cells.size = ti.size := by rw [g3]; simpa using hvl
    simp only [execOp, ho, Sem.run_bind, hu, Instr.storeAt, Instr.sureAddr, storeVar, sizeOf, typeInfo, run_program, Result.andThen_ok, g1, Sem.run_pure, hne, ne_eq, not_true_eq_false, if_false, hsc]
    rfl
  have hsub : ∀ c, c ∈ f1 ∨ c ∈ f2 → c ∈ fps r := fun c hc => by rw [m6]; simp; rcases hc with hc | hc <;> simp [hc]
  have hres := h.change (w' := w') (R' := R) (σ' := σ) (e := ⟨.void, rem, [(r, ⟨rt.pv.put k off cs, ownAt off cs ++ rt.links.filter fun l => !(l.1 == k && off ≤ l.2 && l.2 < off + i.size)⟩)], st.next⟩) (dst := o.dst) (u := Go.undef) hd (fun _ => b :: f1 ++ f ++ f2)
    (by simp) (fun _ h => h) (fun c hc => ⟨by rw [setRow_size]; exact (h.Rb c hc).1, .inl hc⟩) (Le.refl _) (fun c hc => hoth c (by rintro rfl; exact hbR hc))
    (by
      intro q hq hq' c hc
      refine hoth c ?_
      rintro rfl
      exact h.dj r q (by rintro rfl; exact hq' (by simp)) c hbr hc)
    (by
      intro q x hx
      simp only [List.mem_singleton, Prod.mk.injEq] at hx
      obtain ⟨rfl, rfl⟩ := hx
      exact ⟨hh, k1, hV, put_ty k4 _ _⟩)
    (by
      simp only [List.map_cons, List.map_nil, List.flatMap_cons, List.flatMap_nil, List.append_nil]
      have p1 : (b :: f1 ++ f ++ f2).Perm ((b :: f1 ++ f2) ++ f) := by
        rw [List.append_assoc, List.append_assoc]
        exact List.Perm.append_left _ List.perm_append_comm
      rw [p1.nodup_iff, List.nodup_append]
      refine ⟨?_, q2.nodup_iff.2 (perm_nodup h hnd'.2), ?_⟩
      · refine List.Sublist.nodup ?_ hnd6
        rw [List.append_assoc]
        exact List.Sublist.append_left (List.sublist_append_right _ _) _
      · rintro c hc d hd rfl
        obtain ⟨x, hx, hcx⟩ := hmem c hd
        have hcr : c ∈ fps r := by
          rw [m6]; simp at hc ⊢; rcases hc with hc | hc | hc <;> simp [hc]
        exact h.dj r x (by rintro rfl; exact hnd'.1 hx) c hcr hcx)
    (by
      intro q hq c hc
      have hcc : c ∈ fps r ∨ ∃ x ∈ rem, c ∈ fps x := by
        simp only [List.cons_append, List.mem_cons, List.mem_append] at hc
        rcases hc with rfl | (hc | hc) | hc
        · exact .inl hbr
        · exact .inl (hsub c (.inl hc))
        · exact .inr (hmem c hc)
        · exact .inl (hsub c (.inr hc))
      rcases hcc with hcc | ⟨x, hx, hcc⟩
      · obtain ⟨z1, z2, _⟩ := h.fb r c hcc
        exact ⟨by rw [setRow_size]; exact z1, z2, .inl ⟨r, by simp, hcc⟩⟩
      · obtain ⟨z1, z2, _⟩ := h.fb x c hcc
        exact ⟨by rw [setRow_size]; exact z1, z2, .inl ⟨x, by simp [hx], hcc⟩⟩)
    (by
      intro c h1 h2
      refine hoth c ?_
      rintro rfl
      rcases (h.fb r c hbr).2.2 with h3 | h3
      · exact h2 h3
      · omega)
    (by rw [setRow_size]; exact Nat.le_refl _) ⟨rfl, fun _ => Nat.le_refl _⟩ rfl rfl (fun q hq => (h.fr q hq.1).1) (by simp; exact .inl ⟨_, k1⟩) (by simp [V, Go.undef])
  exact fun _ => ⟨_, _, w', R, σ, _, hrun, .inr ⟨rfl, rfl⟩, hres⟩
theorem Row.cells {sz k : Nat} {v : Value} {us : List Value} (hr : Row w sz v k us) {A : Option Addr} {c : Nat} (hv : v = .slice A k c) (hk : 0 < k) :
    ∃ ad, A = some ad ∧ ∀ j u, us[j]? = some u → w.cell? (ad.add j) = some u := by
  subst hv
  rcases hr.2 with ⟨he, h0⟩ | ⟨g, cap, cur, e, lo, hi, he, hg, hm, hn, hc, hs, ht⟩
  · omega
  · simp only [Value.slice.injEq] at he
    obtain ⟨rfl, _, rfl⟩ := he
    refine ⟨_, rfl, fun j u hu => ?_⟩
    rw [add_lit', cell_of_row w g (0 + j) cur e (lo, hi) hg, Nat.zero_add]
    rw [← ht, List.getElem?_take] at hu
    split at hu
    · simpa using hu
    · cases hu
theorem Row.form {sz k : Nat} {v : Value} {us : List Value} (hr : Row w sz v k us) : ∃ A c, v = .slice A k c ∧ k ≤ c ∧ c ≤ maxLen := by
  rcases hr.2 with ⟨rfl, rfl⟩ | ⟨g, cap, cur, e, lo, hi, rfl, _, _, hn, hc, _⟩
  · exact ⟨none, 0, rfl, Nat.le_refl _, Nat.zero_le _⟩
  · exact ⟨_, cap, rfl, hn, hc⟩
theorem run_append_row (t ty e : TypeId) (i : TypeInfo) (z : Value) (ht : P.underlying t = some (.slice e)) (hi : P.info? e = some i) (hz : i.zero = some z) (hzs : z.cells.size = i.size) (hsz : 0 < i.size)
    (v : Value) (k : Nat) (us : List Value) (hrow : Row w i.size v k us)
    (A : Option Addr) (m c : Nat) (news : List Value) (hl : news.length = m * i.size) (hc : 0 < m → ∃ ad, A = some ad ∧ ∀ j u, news[j]? = some u → w.cell? (ad.add j) = some u) (h1 : ∀ u ∈ news, u.oneCell' = true)
    (hbytes : (k + m) * i.bytes ≤ 140737488355328) (h63 : k + m ≤ maxLen) :
    ∃ v' w', (Builtin.append_ #[t, t] ty #[v, .slice A m c]).run P w = .ok v' w' ∧ Row w' i.size v' (k + m) (us ++ news) ∧ v'.oneCell' = true ∧
      (∀ b, blkOf v' = some b → blkOf v = some b ∨ (b = w.heap.size ∧ b < w'.heap.size)) ∧ (∀ b, b < w.heap.size → blkOf v ≠ some b → w'.heap[b]? = w.heap[b]?) ∧
      w.heap.size ≤ w'.heap.size ∧ TapeOk w w' ∧ w'.os = w.os ∧ w'.output = w.output := by
  have h63' : k + m ≤ 9223372036854775807 := by rw [maxLen_val] at h63; exact h63
  rcases Nat.eq_zero_or_pos m with rfl | hm
  · obtain ⟨B, cap, rfl, hkc, hcm⟩ := hrow.form
    have hnil : news = [] := List.eq_nil_of_length_eq_zero (by simpa using hl)
    subst hnil
    refine ⟨.slice B k cap, w, ?_, by simpa using hrow, rfl, fun b hb => .inl hb, fun _ _ _ => rfl, Nat.le_refl _, .refl _, rfl, rfl⟩
    have hl0 : ∀ x : Addr, (loadCells x 0).run P w = .ok #[] w := fun x => by simpa using run_loadCells_list (P := P) w x [] (by simp)
    cases A <;> cases B <;> simp [Builtin.append_, run_underlying ht, sizeOf, typeInfo, hi, Builtin.lenOf, Builtin.firstCells, hkc, hl0, storeCells]
  · obtain ⟨ad, rfl, hcell⟩ := hc hm
    have hgc : ∀ need old : Nat, need ≤ maxLen → need ≤ grownCap w need old e ∧ grownCap w need old e ≤ maxLen := fun need old hn => ⟨grownCap_ge w need old e, grownCap_le_maxLen w need old e hn⟩
    have grown : ∀ old : Nat, Row (w.drew.alloc (.cells (us.toArray ++ news.toArray ++ Builtin.zeroCells z.cells (grownCap w (k + m) old e - (k + m))) e)) i.size (.slice (some ⟨w.heap.size, 0, none⟩) (k + m) (grownCap w (k + m) old e)) (k + m) (us ++ news) := by
      intro old
      obtain ⟨hge, hle⟩ := hgc (k + m) old h63
      refine Row.new w.drew hge hle ?_ ?_
      · simp only [Array.size_append, List.size_toArray, size_zeroCells, hzs, hrow.1, hl, ← Nat.add_mul]
        congr 1
        omega
      · have hlen : (us ++ news).length = (k + m) * i.size := by rw [List.length_append, hrow.1, hl, Nat.add_mul]
        simp only [Array.toList_append, List.append_assoc]
        rw [← List.append_assoc, ← hlen]
        exact List.take_left' rfl
    have hnew : ∀ old : Nat, let w' := w.drew.alloc (.cells (us.toArray ++ news.toArray ++ Builtin.zeroCells z.cells (grownCap w (k + m) old e - (k + m))) e)
        (Builtin.append_ #[t, t] ty #[v, .slice (some ad) m c]).run P w = .ok (.slice (some ⟨w.heap.size, 0, none⟩) (k + m) (grownCap w (k + m) old e)) w' →
        ∃ v' w', (Builtin.append_ #[t, t] ty #[v, .slice (some ad) m c]).run P w = .ok v' w' ∧ Row w' i.size v' (k + m) (us ++ news) ∧ v'.oneCell' = true ∧
      (∀ b, blkOf v' = some b → blkOf v = some b ∨ (b = w.heap.size ∧ b < w'.heap.size)) ∧ (∀ b, b < w.heap.size → blkOf v ≠ some b → w'.heap[b]? = w.heap[b]?) ∧
      w.heap.size ≤ w'.heap.size ∧ TapeOk w w' ∧ w'.os = w.os ∧ w'.output = w.output := by
      intro old w' hr
      refine ⟨_, _, hr, grown old, rfl, ?_, fun b hb _ => heap_old w.drew _ b hb, by simp [w'], ⟨rfl, fun _ => Nat.le_succ _⟩, rfl, rfl⟩
      intro b hb
      simp [blkOf] at hb
      exact .inr ⟨hb.symm, by simp [w', ← hb]⟩
    rcases hrow.2 with ⟨rfl, rfl⟩ | ⟨g, cap, cur, e', lo, hi', rfl, hg, hmark, hkc, hcm, hcs, htake⟩
    · have hx : us = [] := List.eq_nil_of_length_eq_zero (by simpa using hrow.1)
      subst hx
      have hr := run_append_nil (P := P) w t ty e i z ht hi hz ad m c news hl hcell hm (by omega) (by have hb := hbytes; simp only [Nat.zero_add] at hb; omega)
      have := hnew 0
      simp only [Nat.zero_add, List.nil_append, Array.empty_append] at this ⊢
      exact this hr
    · by_cases hroom : k + m ≤ cap
      · have hfit : 0 + k * i.size + news.length ≤ cur.size := by rw [hl, hcs, Nat.zero_add, ← Nat.add_mul]; exact Nat.mul_le_mul_right _ hroom
        have hf := run_firstCells_some (P := P) w i.size m ad m c news hl hcell
        have hst := run_storeRow (P := P) g (0 + k * i.size) e' lo hi' news 0 cur w hg hmark (by omega) h1
        simp only [Nat.add_zero, Nat.zero_add] at hst
        refine ⟨.slice (some ⟨g, 0, none⟩) (k + m) cap, w.setRow g (putAt cur.toList (k * i.size) news).toArray, ?_, ?_, rfl, fun b hb => .inl hb, fun b _ hb => setRow_other w g b _ (fun e => hb (by simp [blkOf, e])), by simp, ⟨rfl, fun _ => Nat.le_refl _⟩, rfl, rfl⟩
        · simp [Builtin.append_, run_underlying ht, sizeOf, typeInfo, hi, Builtin.lenOf, hroom, hf, Addr.add_lit, hst]
        · have hlen : (us ++ news).length = (k + m) * i.size := by rw [List.length_append, hrow.1, hl, Nat.add_mul]
          have hpl : (putAt cur.toList (k * i.size) news).length = cur.toList.length := putAt_length (by simp; omega)
          refine ⟨hlen, .inr ⟨g, cap, _, e', lo, hi', rfl, setRow_heap w g cur _ e' _ hg, ?_, hroom, hcm, ?_, ?_⟩⟩
          · rw [List.size_toArray, hpl, Array.length_toList]; exact hmark
          · rw [List.size_toArray, hpl, Array.length_toList]; exact hcs
          · rw [List.toList_toArray, ← hlen]
            unfold putAt
            rw [htake]
            exact List.take_left' rfl
      · have holds : ∀ j u, us[j]? = some u → w.cell? ((⟨g, 0, none⟩ : Addr).add j) = some u := by
          rcases Nat.eq_zero_or_pos k with rfl | hk
          · have hx : us = [] := List.eq_nil_of_length_eq_zero (by simpa using hrow.1)
            subst hx; simp
          · obtain ⟨ad', h2, h3⟩ := hrow.cells rfl hk
            obtain rfl := Option.some.inj h2
            exact h3
        have hr := run_append_grow (P := P) w t ty e i z ht hi hz ⟨g, 0, none⟩ k cap us hrow.1 holds ad m c news hl hcell (by omega) (by omega) (growslice_fits (by omega) hbytes)
        exact hnew cap hr
theorem sliceEs_sound (h : Rel w0 R0 F0 gh E.G n Fr R σ fps st a w) {x : PV} {v : Value} {es : List PV} {l : List Nat} (he : sliceEs st x = some (es, l)) (hv : V w R σ x v []) :
    ∃ A c us sz f g, v = .slice A es.length c ∧ Es w R σ sz es us f ∧ (g ++ f).Perm (l.flatMap fps) ∧ es.length ≤ maxLen ∧ (0 < es.length → ∃ ad, A = some ad ∧ ∀ j u, us[j]? = some u → w.cell? (ad.add j) = some u) := by
  cases x <;> simp only [sliceEs] at he <;> try (cases he; done)
  · -- nil
    simp only [Option.some.injEq, Prod.mk.injEq] at he
    obtain ⟨rfl, rfl⟩ := he
    simp only [V] at hv
    exact ⟨none, 0, [], 0, [], [], hv.1, by simp [Es], by simp, by simp, by simp⟩
  · simp only [Option.some.injEq, Prod.mk.injEq] at he
    obtain ⟨rfl, rfl⟩ := he
    simp only [V] at hv
    obtain ⟨_, A, cap, us, sz, rfl, h1, h2, h3, h4⟩ := hv
    exact ⟨A, cap, us, sz, [], [], rfl, h4, by simp, Nat.le_trans h1 h2, fun hn => by obtain ⟨ad, e, _, hc⟩ := h3 hn; exact ⟨ad, e, hc⟩⟩
  · rename_i r
    split at he
    · rename_i sz es' l' hf
      simp only [Option.some.injEq, Prod.mk.injEq] at he
      obtain ⟨rfl, rfl⟩ := he
      obtain ⟨k, f, hk, hV, hty, hp⟩ := fold_sound h 4 r _ _ hf
      simp only [V] at hv
      obtain ⟨_, k', hk', rfl, _⟩ := hv
      obtain rfl : k = k' := by rw [hk] at hk'; exact Option.some.inj hk'
      simp only [V] at hV
      obtain ⟨us, fp', hrow, hes, rfl⟩ := hV
      obtain ⟨A, c, hh, h1, h2⟩ := hrow.form
      exact ⟨A, c, us, sz, fp', _, hh, hes, hp, Nat.le_trans h1 h2, fun hn => hrow.cells hh hn⟩
    · cases he
theorem Es.resize : ∀ {sz sz' : Nat} {es : List PV} {us : List Value} {f : List Nat}, (∀ e ∈ es, e.cells.length = sz') → Es w R σ sz es us f → Es w R σ sz' es us f
  | sz, sz', [], us, f, _, h => by simpa [Es] using h
  | sz, sz', e :: es, us, f, hl, h => by
    simp only [Es] at h ⊢
    obtain ⟨v, us', f1, f2, rfl, hs, h0, hu, hv, h2, rfl⟩ := h
    refine ⟨v, us', f1, f2, rfl, ?_, h0, hu, hv, Es.resize (fun x hx => hl x (by simp [hx])) h2, rfl⟩
    have := (V.cellsOf hv h0 hu).length
    rw [Array.length_toList] at this
    rw [this]; exact hl e (by simp)
theorem Es.flatL : ∀ {sz : Nat} {es : List PV} {us : List Value} {f : List Nat}, PVE.flatL es → Es w R σ sz es us f → f = []
  | sz, [], us, f, _, h => by simp only [Es] at h; exact h.2
  | sz, e :: es, us, f, hl, h => by
    simp only [Es] at h
    obtain ⟨v, us', f1, f2, rfl, hs, h0, hu, hv, h2, rfl⟩ := h
    have e2 := Es.flatL (fun x hx => hl x (by simp [hx])) h2
    have cell : ∀ {c : PV} {u : Value} {g : List Nat}, c.flatC = true → V w R σ c u g → g = [] := by
      intro c u g hc hv
      cases c <;> simp [PV.flatC] at hc <;> simp only [V] at hv
      · exact hv.2
      · exact hv.2
      · exact hv.2
      · exact hv.2.2
      · exact hv.1
    have cells : ∀ {cs : List PV} {us : List Value} {g : List Nat}, cs.all PV.flatC = true → Cs w R σ cs us g → g = [] := by
      intro cs
      induction cs with
      | nil => intro us g _ h; simp only [Cs] at h; exact h.2
      | cons c cs ih =>
        intro us g hc h
        simp only [List.all_cons, Bool.and_eq_true] at hc
        simp only [Cs] at h
        obtain ⟨u, us', g1, g2, rfl, _, h1, h2, rfl⟩ := h
        rw [cell hc.1 h1, ih hc.2 h2]; rfl
    have e1 : f1 = [] := by
      have hf := hl e (by simp)
      cases e with
      | agg cs =>
        simp only [V] at hv
        obtain ⟨us, _, hc⟩ := hv
        exact cells hf hc
      | _ => refine cell ?_ hv; exact hf
    rw [e1, e2]; rfl
theorem view_sound (h : Rel w0 R0 F0 gh E.G n Fr R σ fps st a w) {r x0 y0 : Nat} {v : Value} {es : List PV} (he : viewEs st.store r x0 y0 = some es) (hf : PVE.flatL es) (hv : V w R σ (.vw r x0 y0) v []) :
    ∃ A c us sz f g, v = .slice A es.length c ∧ Es w R σ sz es us f ∧ (g ++ f).Perm (([] : List Nat).flatMap fps) ∧ es.length ≤ maxLen ∧ (0 < es.length → ∃ ad, A = some ad ∧ ∀ j u, us[j]? = some u → w.cell? (ad.add j) = some u) := by
  unfold viewEs at he
  split at he
  case h_2 => cases he
  rename_i sz es0 links hr
  obtain rfl := Option.some.inj he
  obtain ⟨kk, q1, q2, q3⟩ := h.rt r _ hr
  simp only [V] at hv q2
  obtain ⟨_, k', A, m', c, B, c', hk', hhv, r1, r2, hxv, r3, r4, r5⟩ := hv
  obtain rfl : kk = k' := by rw [q1] at hk'; exact Option.some.inj hk'
  obtain ⟨us, fp', hrow, hes, hfp⟩ := q2
  simp only [RootTy] at q3
  obtain ⟨A1, c1, hform, hf1, hf2⟩ := hrow.form
  rw [hhv] at hform
  simp only [Value.slice.injEq] at hform
  obtain ⟨rfl, rfl, rfl⟩ := hform
  have hlen : ((es0.drop x0).take (y0 - x0)).length = y0 - x0 := by simp; omega
  have hsplit : es0 = es0.take x0 ++ ((es0.drop x0).take (y0 - x0) ++ (es0.drop x0).drop (y0 - x0)) := by rw [List.take_append_drop, List.take_append_drop]
  rw [hsplit] at hes
  obtain ⟨u1, u2, f1, f2, rfl, hff, h1, h2⟩ := Es.append.1 hes
  obtain ⟨u3, u4, f3, f4, rfl, hff2, h3, h4⟩ := Es.append.1 h2
  have hf3 := Es.flatL hf h3
  subst hf3
  have hl1 : u1.length = x0 * sz := by rw [h1.length, List.length_take, Nat.min_eq_left (by omega)]
  refine ⟨B, c', u3, sz, [], [], by rw [hxv, hlen], h3, by simp, by rw [hlen]; omega, fun hn => ?_⟩
  rw [hlen] at hn
  obtain ⟨ad, h5, h6⟩ := hrow.cells hhv (by omega)
  rw [h5] at r5
  refine ⟨ad.add (x0 * kk.sz), r5 (by omega), fun j u hu => ?_⟩
  rw [add_add', ← q3]
  refine h6 _ u ?_
  have hj : j < u3.length := (List.getElem?_eq_some_iff.1 hu).1
  rw [List.getElem?_append_right (by omega), hl1, Nat.add_sub_cancel_left, List.getElem?_append_left hj]
  exact hu
theorem flatC_fp {c : PV} {u : Value} {g : List Nat} (hc : c.flatC = true) (hv : V w R σ c u g) : g = [] := by
  cases c <;> simp [PV.flatC] at hc <;> simp only [V] at hv
  · exact hv.2
  · exact hv.2
  · exact hv.2
  · exact hv.2.2
  · exact hv.1
theorem mvC_V {c : PV} {u : Value} {g : List Nat} (hv : V w R σ c u g) : V w R σ c.mvC u [] := by
  unfold PV.mvC
  split
  · rename_i hc
    have := flatC_fp hc hv
    subst this
    exact hv
  · simp [V]
theorem Cs.mvC : ∀ {cs : List PV} {us : List Value} {f : List Nat}, Cs w R σ cs us f → Cs w R σ (cs.map PV.mvC) us []
  | [], us, f, h => by simp only [Cs] at h; simp [Cs, h.1]
  | c :: cs, us, f, h => by
    simp only [Cs] at h
    obtain ⟨u, us', f1, f2, rfl, ho, hv, h2, rfl⟩ := h
    simp only [List.map_cons, Cs]
    exact ⟨u, us', [], [], rfl, ho, mvC_V hv, Cs.mvC h2, rfl⟩
theorem Es.mvE : ∀ {sz : Nat} {es : List PV} {us : List Value} {f : List Nat}, allAgg es → Es w R σ sz es us f → Es w R σ sz (es.map PV.mv) us []
  | sz, [], us, f, _, h => by simp only [Es] at h; simp [Es, h.1]
  | sz, e :: es, us, f, ha, h => by
    simp only [Es] at h
    obtain ⟨v, us', f1, f2, rfl, hs, h1, hu, hv, h2, rfl⟩ := h
    obtain ⟨cs, rfl⟩ := ha e (by simp)
    simp only [V] at hv
    obtain ⟨xs, rfl, hc⟩ := hv
    simp only [List.map_cons, Es]
    exact ⟨.agg xs.toArray, us', [], [], rfl, hs, h1, by simp [PV.mv], by simp only [PV.mv, V]; exact ⟨xs, rfl, Cs.mvC hc⟩, Es.mvE (fun x hx => ha x (by simp [hx])) h2, rfl⟩
theorem out_appendM (hT : TyOk P E.T) (h : Rel w0 R0 F0 gh E.G n Fr R σ fps st a w) {o : Oper} (hd : dstOk n o.dst) {c : Call} {s x : Operand} {t el : Nat} {ti : TyI} (ho : o.op = .call c) (hc1 : c.callee = .builtin .append) (hc2 : c.args.toList = [s, x]) (hc3 : c.argTypes = #[t, t])
    {sz0 b0 : Nat} {z0 : List PV} (hTt : E.T t = some ⟨.slice el, sz0, b0, z0⟩) (hTe : E.T el = some ti) {r x0 y0 : Nat} (hvx : ev E st x = .vw r x0 y0) {p : Prop} {e : Eff} (he : appendM st ti (ev E st s) r x0 y0 = some (p, e)) (hp : p) : Out P E w0 R0 F0 gh n Fr st o a w e := by
  have ht : P.underlying t = some (.slice el) := (hT t _ hTt).1
  obtain ⟨_, tinf, z, g1, g2, g3, g4, g5, g6, g7, g8, g9⟩ := hT el ti hTe
  have hx := ev_V h x
  have hs := ev_V h s
  have hargs : c.args = #[s, x] := by rw [← Array.toArray_toList (xs := c.args), hc2]
  have hex : (execOp a.eval o).run P w = ((Builtin.append_ #[t, t] o.type #[a.eval s, a.eval x]).run P w).andThen fun v w' => .ok (.value v) w' := by
    simp only [execOp, ho, resolve, hc1, hc3, invoke, builtin, Sem.run_bind, Sem.run_pure, Result.andThen_ok, hargs, List.map_toArray, List.map_cons, List.map_nil]
  unfold appendM at he
  split at he
  case h_2 => cases he
  rename_i sz es0 hr
  split at he
  case h_2 => cases he
  rename_i p' e' hW
  split at he
  · cases he
  rename_i hrem
  simp only [Option.some.injEq, Prod.mk.injEq] at he
  obtain ⟨rfl, rfl⟩ := he
  obtain ⟨hagg, hp⟩ := hp
  obtain ⟨kk, q1, q2, q3⟩ := h.rt r _ hr
  rw [hvx] at hx
  simp only [V] at hx q2
  obtain ⟨_, k', A, m', cc0, B, c', hk', hhv, r1, r2, hxv, r3, r4, r5⟩ := hx
  obtain rfl : kk = k' := by rw [q1] at hk'; exact Option.some.inj hk'
  obtain ⟨us, fp', hrow, hes, hfp⟩ := q2
  simp only [RootTy] at q3
  obtain ⟨A1, c1, hform, hf1, hf2⟩ := hrow.form
  rw [hhv] at hform
  simp only [Value.slice.injEq] at hform
  obtain ⟨rfl, rfl, rfl⟩ := hform
  have hlen : ((es0.drop x0).take (y0 - x0)).length = y0 - x0 := by simp; omega
  have hdrop : (es0.drop x0).drop (y0 - x0) = es0.drop y0 := by rw [List.drop_drop]; congr 1; omega
  have hsplit : es0 = es0.take x0 ++ ((es0.drop x0).take (y0 - x0) ++ es0.drop y0) := by rw [← hdrop, List.take_append_drop, List.take_append_drop]
  have hes' := hes
  rw [hsplit] at hes'
  obtain ⟨u1, u2, f1, f2, rfl, hff, h1, h2⟩ := Es.append.1 hes'
  obtain ⟨u3, u4, f3, f4, rfl, hff2, h3, h4⟩ := Es.append.1 h2
  subst hff2 hff
  generalize hnew : (es0.drop x0).take (y0 - x0) = new at *
  have hl1 : u1.length = x0 * sz := by rw [h1.length, List.length_take, Nat.min_eq_left (by omega)]
  have hcell2 : 0 < new.length → ∃ ad, B = some ad ∧ ∀ j u, u3[j]? = some u → w.cell? (ad.add j) = some u := by
    intro hn
    rw [hlen] at hn
    obtain ⟨ad, h5, h6⟩ := hrow.cells hhv (by omega)
    rw [h5] at r5
    refine ⟨ad.add (x0 * kk.sz), r5 (by omega), fun j u hu => ?_⟩
    rw [add_add', ← q3]
    refine h6 _ u ?_
    have hj : j < u3.length := (List.getElem?_eq_some_iff.1 hu).1
    rw [List.getElem?_append_right (by omega), hl1, Nat.add_sub_cancel_left, List.getElem?_append_left hj]
    exact hu
  have hxv' : a.eval x = .slice B new.length c' := by rw [hxv, hlen]
  have hrn : r ≠ st.next → True := fun _ => trivial
  -- the common part
  have key : ∀ (rem : List Nat) (v : Value) (es : List PV) (us' : List Value) (fT : List Nat) (links : List (Nat × Nat)), a.eval s = v → Row w ti.size v es.length us' → Es w R σ ti.size es us' fT → rem.Nodup → (∀ b ∈ fT, ∃ q ∈ rem, b ∈ fps q) → (∀ b, blkOf v = some b → ∃ q ∈ rem, b ∈ fps q) →
      ((blkOf v).toList ++ fT).Nodup → r ∉ rem → ((es.length + new.length) * ti.bytes ≤ 140737488355328 ∧ 0 < ti.bytes ∧ ∀ e ∈ new, e.cells.length = ti.size) →
      Out P E w0 R0 F0 gh n Fr st o a w ⟨.own st.next, rem, [(r, ⟨.slo sz (mvR es0 x0 y0), []⟩), (st.next, ⟨.slo ti.size (es ++ new), links⟩)], st.next + 1⟩ := by
    intro rem v es us' fT links hv hrow2 hes2 hnd hfT hblk hnd2 hrr hcond hFF
    have hF : Fr st.next := hFF _ (Nat.le_refl _) (Nat.lt_succ_self _)
    have hrne : r ≠ st.next := by rintro rfl; rw [(h.fr _ hF).2] at hr; cases hr
    have h3' := Es.resize hcond.2.2 h3
    have hlen63 : es.length + new.length ≤ maxLen := by
      have : es.length + new.length ≤ (es.length + new.length) * ti.bytes := Nat.le_mul_of_pos_right _ hcond.2.1
      rw [maxLen_val]; omega
    obtain ⟨v', w', hrun, hrow', hone', hblk', hoth, hsz', htape, hos, hout⟩ := run_append_row (P := P) (w := w) t o.type el tinf z ht g1 g2 (by rw [g5, g3]) (by rw [g3]; exact g6) v es.length us' (by rw [g3]; exact hrow2) B new.length c' u3 (by rw [g3]; exact h3'.length) hcell2 h3'.one
      (by rw [g4]; exact hcond.1) hlen63
    rw [g3] at hrow'
    have hfr : ∀ b, b ∈ (blkOf kk.hdr).toList ++ (f1 ++ (f3 ++ f4)) → b ∈ fps r := fun b hb => by rw [hfp]; exact hb
    have hdis : ∀ b, b ∈ fps r → ∀ q ∈ rem, b ∉ fps q := fun b hb q hq hbq => h.dj r q (by rintro rfl; exact hrr hq) b hb hbq
    have hold : ∀ b, b < w.heap.size → (∀ q ∈ rem, b ∉ fps q) → w'.heap[b]? = w.heap[b]? := fun b hb hq => hoth b hb (fun hbv => by obtain ⟨q, k1, k2⟩ := hblk b hbv; exact hq q k1 k2)
    have hholdr : ∀ b ∈ fps r, w'.heap[b]? = w.heap[b]? := fun b hb => hold b (h.fb r b hb).1 (hdis b hb)
    have hne : ∀ b, b ∈ fT → blkOf v ≠ some b := by
      rintro b hb hbv
      rw [List.nodup_append] at hnd2
      exact hnd2.2.2 b (by simp [hbv]) b hb rfl
    have hmono : ∀ b, R b → w'.heap[b]? = w.heap[b]? := fun b hb => hold b (h.Rb b hb).1 fun q _ hq => (h.fb q b hq).2.1 hb
    have hlt : ∀ b, (∃ q ∈ rem, b ∈ fps q) → b < w.heap.size := fun b ⟨q, _, hq⟩ => (h.fb q b hq).1
    have hle := Le_new h hF (some ⟨v', ti.size⟩)
    have hVn : V w' R (upd σ st.next (some ⟨v', ti.size⟩)) (.slo ti.size (es ++ new)) v' ((blkOf v').toList ++ (fT ++ f3)) := by
      simp only [V]
      refine ⟨us' ++ u3, fT ++ f3, by rw [List.length_append]; exact hrow', Es.append.2 ⟨us', u3, fT, f3, rfl, rfl, ?_, ?_⟩, rfl⟩
      · exact Es.mono (fun _ h => h) hle hmono _ _ _ _ (fun b hb => hoth b (hlt b (hfT b hb)) (hne b hb)) hes2
      · exact Es.mono (fun _ h => h) hle hmono _ _ _ _ (fun b hb => hholdr b (hfr b (by simp [hb]))) h3'
    have hVr : V w' R (upd σ st.next (some ⟨v', ti.size⟩)) (.slo sz (mvR es0 x0 y0)) kk.hdr ((blkOf kk.hdr).toList ++ (f1 ++ f4)) := by
      simp only [V]
      have hl : (mvR es0 x0 y0).length = es0.length := by
        unfold mvR
        rw [hnew]
        simp only [List.length_append, List.length_map, List.length_take, List.length_drop, hlen]
        omega
      refine ⟨u1 ++ (u3 ++ u4), f1 ++ f4, by rw [hl]; exact hrow.block fun b hb => hholdr b (hfr b (by simp [hb])), ?_, rfl⟩
      unfold mvR
      rw [List.drop_drop, show x0 + (y0 - x0) = y0 by omega, hnew, List.append_assoc]
      refine Es.append.2 ⟨u1, u3 ++ u4, f1, f4, rfl, rfl, ?_, Es.append.2 ⟨u3, u4, [], f4, rfl, rfl, ?_, ?_⟩⟩
      · exact Es.mono (fun _ h => h) hle hmono _ _ _ _ (fun b hb => hholdr b (hfr b (by simp [hb]))) h1
      · exact Es.mono (fun _ h => h) hle hmono _ _ _ _ (by simp) (Es.mvE hagg h3)
      · exact Es.mono (fun _ h => h) hle hmono _ _ _ _ (fun b hb => hholdr b (hfr b (by simp [hb]))) h4
    have hndr : ((blkOf kk.hdr).toList ++ (f1 ++ (f3 ++ f4))).Nodup := by rw [← hfp]; exact h.nd r
    have hblk2 : ∀ b, blkOf v' = some b → (∃ q ∈ rem, b ∈ fps q) ∨ (w.heap.size ≤ b ∧ b < w'.heap.size) := fun b hb => by
      rcases hblk' b hb with k1 | ⟨k1, k2⟩
      · exact .inl (hblk b k1)
      · exact .inr ⟨by omega, k2⟩
    have hB : ∀ b, b ∈ (blkOf v').toList ++ (fT ++ f3) → (∃ q ∈ rem, b ∈ fps q) ∨ (w.heap.size ≤ b ∧ b < w'.heap.size) ∨ b ∈ f3 := fun b hb => by
      rcases List.mem_append.1 hb with hb | hb
      · rcases hblk2 b (by simpa using hb) with k | k
        · exact .inl k
        · exact .inr (.inl k)
      · rcases List.mem_append.1 hb with hb | hb
        · exact .inl (hfT b hb)
        · exact .inr (.inr hb)
    let fpN : Nat → List Nat := fun q => if q = r then (blkOf kk.hdr).toList ++ (f1 ++ f4) else (blkOf v').toList ++ (fT ++ f3)
    have hN1 : fpN r = (blkOf kk.hdr).toList ++ (f1 ++ f4) := by simp [fpN]
    have hN2 : fpN st.next = (blkOf v').toList ++ (fT ++ f3) := by simp [fpN, Ne.symm hrne]
    have hres := h.change (w' := w') (R' := R) (σ' := upd σ st.next (some ⟨v', ti.size⟩)) (e := ⟨.own st.next, rem, [(r, ⟨.slo sz (mvR es0 x0 y0), []⟩), (st.next, ⟨.slo ti.size (es ++ new), links⟩)], st.next + 1⟩) (dst := o.dst) (u := v') hd fpN
      (by simp [hrne]) (fun _ h => h) (fun b hb => ⟨Nat.lt_of_lt_of_le (h.Rb b hb).1 hsz', .inl hb⟩) hle hmono
      (fun q hq _ b hb => hold b (h.fb q b hb).1 fun q' hq' hbq => h.dj q q' (by rintro rfl; exact hq hq') b hb hbq)
      (by
        intro q y hy
        simp only [List.mem_cons, Prod.mk.injEq, List.not_mem_nil, or_false] at hy
        rcases hy with ⟨rfl, rfl⟩ | ⟨rfl, rfl⟩
        · exact ⟨kk, hle _ _ q1, by rw [hN1]; exact hVr, q3⟩
        · exact ⟨_, upd_same _ _ _, by rw [hN2]; exact hVn, rfl⟩)
      (by
        simp only [List.map_cons, List.map_nil, List.flatMap_cons, List.flatMap_nil, List.append_nil, hN1, hN2]
        rw [List.nodup_append]
        refine ⟨List.Sublist.nodup ?_ hndr, ?_, ?_⟩
        · exact List.Sublist.append_left (List.Sublist.append_left (List.sublist_append_right _ _) _) _
        · rw [List.nodup_append, List.nodup_append]
          rw [List.nodup_append] at hnd2
          refine ⟨by cases blkOf v' <;> simp, ⟨hnd2.2.1, ?_, ?_⟩, ?_⟩
          · refine List.Sublist.nodup ?_ hndr
            exact (List.sublist_append_left _ _).trans ((List.sublist_append_right _ _).trans (List.sublist_append_right _ _))
          · rintro b hb d hd' rfl
            obtain ⟨q, k1, k2⟩ := hfT b hb
            exact hdis b (hfr b (by simp [hd'])) q k1 k2
          · rintro b hb d hd' rfl
            have hb' : blkOf v' = some b := by simpa using hb
            rcases hblk' b hb' with k1 | ⟨k1, _⟩
            · rcases List.mem_append.1 hd' with k2 | k2
              · exact hnd2.2.2 b (by simp [k1]) b k2 rfl
              · obtain ⟨q, k3, k4⟩ := hblk b k1
                exact hdis b (hfr b (by simp [k2])) q k3 k4
            · rcases List.mem_append.1 hd' with k2 | k2
              · have := hlt b (hfT b k2); omega
              · have := (h.fb r b (hfr b (by simp [k2]))).1; omega
        · rintro b hb d hd' rfl
          have hbr : b ∈ fps r := hfr b (by simp at hb ⊢; rcases hb with hb | hb | hb <;> simp [hb])
          rcases hB b hd' with ⟨q, k1, k2⟩ | ⟨k1, _⟩ | k1
          · exact hdis b hbr q k1 k2
          · have := (h.fb r b hbr).1; omega
          · rw [List.nodup_append, List.nodup_append, List.nodup_append] at hndr
            obtain ⟨_, ⟨_, ⟨_, _, hx34⟩, hx1⟩, hx0⟩ := hndr
            rcases List.mem_append.1 hb with hb | hb
            · exact hx0 b hb b (by simp [k1]) rfl
            · rcases List.mem_append.1 hb with hb | hb
              · exact hx1 b hb b (by simp [k1]) rfl
              · exact hx34 b k1 b hb rfl)
      (by
        intro q hq b hb
        simp only [List.map_cons, List.map_nil, List.mem_cons, List.not_mem_nil, or_false] at hq
        have inr : b ∈ fps r → b < w'.heap.size ∧ ¬ R b ∧ ((∃ x ∈ rem ++ [(r, (⟨.slo sz (mvR es0 x0 y0), []⟩ : Root)), (st.next, ⟨.slo ti.size (es ++ new), links⟩)].map (·.1), b ∈ fps x) ∨ w.heap.size ≤ b) := fun hb => by
          obtain ⟨k1, k2, _⟩ := h.fb r b hb
          exact ⟨Nat.lt_of_lt_of_le k1 hsz', k2, .inl ⟨r, by simp, hb⟩⟩
        rcases hq with rfl | rfl
        · rw [hN1] at hb
          exact inr (hfr b (by simp at hb ⊢; rcases hb with hb | hb | hb <;> simp [hb]))
        · rw [hN2] at hb
          rcases hB b hb with ⟨q, k1, k2⟩ | ⟨k1, k2⟩ | k1
          · obtain ⟨z1, z2, _⟩ := h.fb q b k2
            exact ⟨Nat.lt_of_lt_of_le z1 hsz', z2, .inl ⟨q, by simp [k1], k2⟩⟩
          · exact ⟨k2, fun hb => by have := (h.Rb b hb).1; omega, .inr k1⟩
          · exact inr (hfr b (by simp [k1])))
      (by
        intro b k1 k2
        refine hold b (Nat.lt_of_lt_of_le k1 h.sz) fun q _ hq => ?_
        rcases (h.fb q b hq).2.2 with h3 | h3
        · exact k2 h3
        · omega)
      hsz' htape hos hout
      (by
        intro q hq
        have : q ≠ st.next := by rintro rfl; exact hq.2 ⟨Nat.le_refl _, Nat.lt_succ_self _⟩
        rw [upd_other _ _ _ this]
        exact (h.fr q hq.1).1)
      (by
        intro q hq
        simp only [List.map_cons, List.map_nil, List.mem_cons, List.not_mem_nil, or_false] at hq
        rcases hq with rfl | rfl
        · exact .inl ⟨kk, q1⟩
        · exact .inr ⟨Nat.le_refl _, Nat.lt_succ_self _⟩)
      (by simp only [V]; exact ⟨trivial, _, upd_same _ _ _, rfl, hone'⟩)
    refine ⟨.value v', v', w', R, _, _, ?_, .inl rfl, hres⟩
    rw [hex, hv, hxv', hrun]; rfl
  unfold appendW at hW
  cases hse : ev E st s <;> rw [hse] at hW hs <;> simp only at hW <;> try (cases hW; done)
  · -- to nil
    split at hW
    case isFalse => cases hW
    simp only [Option.some.injEq, Prod.mk.injEq] at hW
    obtain ⟨hpe, rfl⟩ := hW
    simp only [V] at hs
    have := key [] (.slice none 0 0) [] [] [] [] hs.1 ⟨by simp, .inl ⟨rfl, rfl⟩⟩ (by simp [Es]) (by simp) (by simp) (by simp [blkOf]) (by simp [blkOf]) (by simp) (by rw [← hpe] at hp; simpa [allLen] using hp)
    simpa using this
  · -- to a root
    rename_i q
    split at hW
    case h_2 => cases hW
    rename_i sz1 es1 links hq
    split at hW
    case isFalse => cases hW
    rename_i hcond
    obtain ⟨hnd, rfl⟩ := hcond
    simp only [Option.some.injEq, Prod.mk.injEq] at hW
    obtain ⟨hpe, rfl⟩ := hW
    obtain ⟨k2, j1, j2, j3⟩ := h.rt q _ hq
    simp only [V] at hs j2
    obtain ⟨_, k3, hk3, hsv, _⟩ := hs
    obtain rfl : k2 = k3 := by rw [j1] at hk3; exact Option.some.inj hk3
    obtain ⟨us1, fp1, hrow1, hes1, hfp1⟩ := j2
    have := key [q] k2.hdr es1 us1 fp1 links hsv hrow1 hes1 (by simp) (fun b hb => ⟨q, by simp, by rw [hfp1]; simp [hb]⟩) (fun b hb => ⟨q, by simp, by rw [hfp1]; simp [hb]⟩) (by rw [← hfp1]; exact h.nd q) hrem (by rw [← hpe] at hp; simpa [allLen] using hp)
    simpa using this
theorem out_append (hT : TyOk P E.T) (h : Rel w0 R0 F0 gh E.G n Fr R σ fps st a w) {o : Oper} (hd : dstOk n o.dst) {c : Call} {s x : Operand} {t el : Nat} {ti : TyI} (ho : o.op = .call c) (hc1 : c.callee = .builtin .append) (hc2 : c.args.toList = [s, x]) (hc3 : c.argTypes = #[t, t])
    {sz0 b0 : Nat} {z0 : List PV} (hTt : E.T t = some ⟨.slice el, sz0, b0, z0⟩) (hTe : E.T el = some ti) {p : Prop} {e : Eff} (he : appendE st ti (ev E st s) (ev E st x) = some (p, e)) (hp : p) : Out P E w0 R0 F0 gh n Fr st o a w e := by
  have ht : P.underlying t = some (.slice el) := (hT t _ hTt).1
  obtain ⟨_, tinf, z, g1, g2, g3, g4, g5, g6, g7, g8, g9⟩ := hT el ti hTe
  have hx := ev_V h x
  have hs := ev_V h s
  have hargs : c.args = #[s, x] := by rw [← Array.toArray_toList (xs := c.args), hc2]
  have hex : (execOp a.eval o).run P w = ((Builtin.append_ #[t, t] o.type #[a.eval s, a.eval x]).run P w).andThen fun v w' => .ok (.value v) w' := by
    simp only [execOp, ho, resolve, hc1, hc3, invoke, builtin, Sem.run_bind, Sem.run_pure, Result.andThen_ok, hargs, List.map_toArray, List.map_cons, List.map_nil]
  by_cases hmv : ∃ r x0 y0, ev E st x = .vw r x0 y0 ∧ ¬ ti.zero.all PV.flatC = true
  · obtain ⟨r, x0, y0, hv, hz⟩ := hmv
    unfold appendE at he
    rw [hv] at he
    simp only [hz] at he
    exact out_appendM hT h hd ho hc1 hc2 hc3 hTt hTe hv he hp
  obtain ⟨new, l, p', hpp, hw', A, cc, us2, sz2, f2, gg, hxv, hes2, hperm2, hml2, hcell2⟩ : ∃ new l p', p' ∧ appendW st ti (ev E st s) new l = some (p', e) ∧ ∃ A c us sz f g, a.eval x = .slice A new.length c ∧ Es w R σ sz new us f ∧ (g ++ f).Perm (l.flatMap fps) ∧ new.length ≤ maxLen ∧ (0 < new.length → ∃ ad, A = some ad ∧ ∀ j u, us[j]? = some u → w.cell? (ad.add j) = some u) := by
    unfold appendE at he
    split at he
    · rename_i r x0 y0 hvx
      rw [hvx] at hx
      split at he
      case isFalse => rename_i hz; exact absurd ⟨r, x0, y0, hvx, hz⟩ hmv
      split at he
      case h_2 => cases he
      rename_i new hnew
      unfold andE at he
      split at he
      case h_2 => cases he
      rename_i p' e' hw'
      simp only [Option.some.injEq, Prod.mk.injEq] at he
      obtain ⟨rfl, rfl⟩ := he
      exact ⟨new, [], p', hp.2, hw', view_sound h hnew hp.1 hx⟩
    · split at he
      case h_2 => cases he
      rename_i new l hsl
      exact ⟨new, l, p, hp, he, sliceEs_sound h hsl hx⟩
  clear he hp
  have he := hw'
  have hp := hpp
  unfold appendW at he
  -- the common part
  have key : ∀ (rem : List Nat) (v : Value) (es : List PV) (us : List Value) (f1 : List Nat) (links : List (Nat × Nat)), a.eval s = v → Row w ti.size v es.length us → Es w R σ ti.size es us f1 → rem.Nodup → (∀ b ∈ f1, ∃ q ∈ rem, b ∈ fps q) → (∀ b, blkOf v = some b → ∃ q ∈ rem, b ∈ fps q) →
      ((blkOf v).toList ++ f1 ++ f2).Nodup → (∀ b ∈ f2, ∃ q ∈ rem, b ∈ fps q) → ((es.length + new.length) * ti.bytes ≤ 140737488355328 ∧ 0 < ti.bytes ∧ ∀ e ∈ new, e.cells.length = ti.size) →
      Out P E w0 R0 F0 gh n Fr st o a w ⟨.own st.next, rem, [(st.next, ⟨.slo ti.size (es ++ new), links⟩)], st.next + 1⟩ := by
    intro rem v es us f1 links hv hrow hes hnd hf1 hblk hnd2 hf2 hcond hFF
    have hF : Fr st.next := hFF _ (Nat.le_refl _) (Nat.lt_succ_self _)
    have hes2' := Es.resize hcond.2.2 hes2
    have hlen63 : es.length + new.length ≤ maxLen := by
      have : es.length + new.length ≤ (es.length + new.length) * ti.bytes := Nat.le_mul_of_pos_right _ hcond.2.1
      rw [maxLen_val]; omega
    obtain ⟨v', w', hrun, hrow', hone', hblk', hoth, hsz', htape, hos, hout⟩ := run_append_row (P := P) (w := w) t o.type el tinf z ht g1 g2 (by rw [g5, g3]) (by rw [g3]; exact g6) v es.length us (by rw [g3]; exact hrow) A new.length cc us2 (by rw [g3]; exact hes2'.length) hcell2 hes2'.one
      (by rw [g4]; exact hcond.1) hlen63
    rw [g3] at hrow'
    have hold : ∀ b, b < w.heap.size → (∀ q ∈ rem, b ∉ fps q) → w'.heap[b]? = w.heap[b]? := fun b hb hq => hoth b hb (fun hbv => by obtain ⟨q, h1, h2⟩ := hblk b hbv; exact hq q h1 h2)
    have hne : ∀ b, b ∈ f1 ∨ b ∈ f2 → blkOf v ≠ some b := by
      rintro b hb hbv
      rw [List.append_assoc, List.nodup_append] at hnd2
      exact hnd2.2.2 b (by simp [hbv]) b (by simpa using hb) rfl
    have hmono : ∀ b, R b → w'.heap[b]? = w.heap[b]? := fun b hb => hold b (h.Rb b hb).1 fun q _ hq => (h.fb q b hq).2.1 hb
    have hlt : ∀ b, (∃ q ∈ rem, b ∈ fps q) → b < w.heap.size := fun b ⟨q, _, hq⟩ => (h.fb q b hq).1
    have hV : V w' R (upd σ st.next (some ⟨v', ti.size⟩)) (.slo ti.size (es ++ new)) v' ((blkOf v').toList ++ (f1 ++ f2)) := by
      simp only [V]
      refine ⟨us ++ us2, f1 ++ f2, by rw [List.length_append]; exact hrow', Es.append.2 ⟨us, us2, f1, f2, rfl, rfl, ?_, ?_⟩, rfl⟩
      · exact Es.mono (fun _ h => h) (Le_new h hF _) hmono _ _ _ _ (fun b hb => hoth b (hlt b (hf1 b hb)) (hne b (.inl hb))) hes
      · exact Es.mono (fun _ h => h) (Le_new h hF _) hmono _ _ _ _ (fun b hb => hoth b (hlt b (hf2 b hb)) (hne b (.inr hb))) hes2'
    obtain ⟨fps', hrel⟩ := h.root hF (w' := w') (dst := o.dst) (pv := .slo ti.size (es ++ new)) (links := links) (val := .own st.next) (u := v') (rem := rem) (hd' := ⟨v', ti.size⟩) (f := (blkOf v').toList ++ (f1 ++ f2)) hd hold hsz' htape hos hout hV rfl
      (by
        rw [List.append_assoc, List.nodup_append] at hnd2
        rw [List.nodup_append]
        refine ⟨by cases blkOf v' <;> simp, hnd2.2.1, ?_⟩
        rintro b hb c hc rfl
        have hb' : blkOf v' = some b := by simpa using hb
        rcases hblk' b hb' with h1 | ⟨h1, _⟩
        · exact hnd2.2.2 b (by simp [h1]) b hc rfl
        · have : b < w.heap.size := by
            rcases List.mem_append.1 hc with hc | hc
            · exact hlt b (hf1 b hc)
            · exact hlt b (hf2 b hc)
          omega)
      (by
        intro b hb
        rcases List.mem_append.1 hb with hb | hb
        · have hb' : blkOf v' = some b := by simpa using hb
          rcases hblk' b hb' with h1 | ⟨h1, h2⟩
          · exact .inl (hblk b h1)
          · exact .inr ⟨by omega, h2⟩
        · rcases List.mem_append.1 hb with hb | hb
          · exact .inl (hf1 b hb)
          · exact .inl (hf2 b hb))
      (by simp only [V]; exact ⟨trivial, _, upd_same _ _ _, rfl, hone'⟩)
    refine ⟨.value v', v', w', R, _, fps', ?_, .inl rfl, hrel⟩
    rw [hex, hv, hxv, hrun]; rfl
  have hf2 : ∀ b ∈ f2, b ∈ l.flatMap fps := fun b hb => hperm2.mem_iff.1 (by simp [hb])
  cases hse : ev E st s <;> rw [hse] at he hs <;> simp only at he <;> try (cases he; done)
  · -- to nil
    split at he
    · rename_i hnd
      simp only [Option.some.injEq, Prod.mk.injEq] at he
      obtain ⟨hpe, rfl⟩ := he
      simp only [V] at hs
      have hnd2 : f2.Nodup := ((hperm2.nodup_iff.2 (perm_nodup h hnd))).sublist (List.sublist_append_right _ _)
      have := key l (.slice none 0 0) [] [] [] [] hs.1 ⟨by simp, .inl ⟨rfl, rfl⟩⟩ (by simp [Es]) hnd (by simp) (by simp [blkOf]) (by simpa [blkOf] using hnd2) (fun b hb => by simpa using List.mem_flatMap.1 (hf2 b hb)) (by rw [← hpe] at hp; simpa [allLen] using hp)
      simpa using this
    · cases he
  · -- to a root
    rename_i r
    split at he
    · rename_i sz es links hr
      split at he
      · rename_i hcond
        obtain ⟨hnd, rfl⟩ := hcond
        simp only [Option.some.injEq, Prod.mk.injEq] at he
        obtain ⟨hpe, rfl⟩ := he
        obtain ⟨k, q1, q2, q3⟩ := h.rt r _ hr
        simp only [V] at hs q2
        obtain ⟨_, k', hk', hsv, _⟩ := hs
        obtain rfl : k = k' := by rw [q1] at hk'; exact Option.some.inj hk'
        obtain ⟨us, fp', hrow, hes, hfp⟩ := q2
        have hnd' := List.nodup_cons.1 hnd
        have hndr := h.nd r
        rw [hfp] at hndr
        refine key (r :: l) k.hdr es us fp' links hsv hrow hes hnd (fun b hb => ⟨r, by simp, by rw [hfp]; simp [hb]⟩) (fun b hb => ⟨r, by simp, by rw [hfp]; simp [hb]⟩) ?_ (fun b hb => by obtain ⟨q, h1, h2⟩ := List.mem_flatMap.1 (hf2 b hb); exact ⟨q, by simp [h1], h2⟩) (by rw [← hpe] at hp; exact hp)
        rw [List.nodup_append]
        refine ⟨hndr, ((hperm2.nodup_iff.2 (perm_nodup h hnd'.2))).sublist (List.sublist_append_right _ _), ?_⟩
        rintro b hb d hd' rfl
        obtain ⟨q, h1, h2⟩ := List.mem_flatMap.1 (hf2 b hd')
        exact h.dj r q (by rintro rfl; exact hnd'.1 h1) b (by rw [hfp]; exact hb) h2
      · cases he
    · cases he
end
end Go.Proofs.YtmanllfmgghadaaGreatDoor.PVE
