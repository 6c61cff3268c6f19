/- The PV engine, part 10: stores, append, slices. -/
import Derived.Test.YtanbccpabgcmaaaGreatDoorE9
set_option linter.unusedVariables false
set_option linter.unusedSimpArgs false
set_option linter.unusedSectionVars false
namespace Go.Proofs.YtanbccpabgcmaaaGreatDoor.PVE
open PV

section
variable {P : Program} {E : Env} {w0 : World} {R0 : Nat → Prop} {F0 : List Nat} {gh : Nat → Value} {n : Nat} {Fr : Nat → Prop} {R : Nat → Prop} {σ : Nat → Option Hd} {fps : Nat → List Nat} {st : St} {a : Act} {w : World}

theorem out_store (hT : TyOk P E.T) (h : Rel w0 R0 F0 gh E.G n Fr R σ fps st a w) {o : Oper} (hd : dstOk n o.dst) {t : Nat} {x y : Operand} (ho : o.op = .store t x y) {p : Prop} {e : Eff} (he : eff E st o.op = some (p, e)) (hp : p) : Out P E w0 R0 F0 gh n Fr st o a w e := by
  rw [ho] at he
  simp only [eff] at he
  split at he
  case h_2 => cases he
  rename_i i hi
  have hx := ev_V h x
  have hy := ev_V h y
  obtain ⟨_, ti, z, g1, g2, g3, g4, g5, g6, g7, g8, g9⟩ := hT t i hi
  cases hev : ev E st x <;> rw [hev] at he hx <;> simp only [storeE] at he <;> try (cases he; done)
  rename_i r k off
  split at he
  case h_2 => cases he
  rename_i rt cs rem hr hinl
  split at he
  · cases he
  rename_i el hel
  split at he
  case isFalse => cases he
  rename_i hcond
  obtain ⟨hsz, hcl, hnd⟩ := hcond
  simp only [Option.some.injEq, Prod.mk.injEq] at he
  obtain ⟨_, rfl⟩ := he
  obtain ⟨hh, b, k1, k2, hu, k3, k4⟩ := addr_root h hx hr
  obtain ⟨b', cur, et, lo, hi', f1, f0, f2, old, m1, m2, m3, m4, m5, m6, m7, m8, m9, hput⟩ := focus k3 k4 hel hsz g6
  obtain rfl : b = b' := by rw [k2] at m1; exact Option.some.inj m1
  obtain ⟨f, q1, q2, q3, q4⟩ := inl_cellsZ h hinl hy
  have hvl : (a.eval y).cells.toList.length = i.size := by rw [q1.length, hcl]
  have hnd' := List.nodup_cons.1 hnd
  let w' := w.setRow b (putAt cur.toList (k * hh.sz + off) (a.eval y).cells.toList).toArray
  have hoth : ∀ c, c ≠ b → w'.heap[c]? = w.heap[c]? := fun c hc => setRow_other w b c _ hc
  have hbr : b ∈ fps r := by rw [m6]; simp
  have hbR : ¬ R b := (h.fb r b hbr).2.1
  have hmem : ∀ c ∈ f, ∃ x ∈ rem, c ∈ fps x := fun c hc => by
    obtain ⟨x, hx, hbx⟩ := List.mem_flatMap.1 (q2.mem_iff.1 hc); exact ⟨x, hx, hbx⟩
  have hcs' : Cs w' R σ cs (a.eval y).cells.toList f := Cs.mono (fun _ h => h) (Le.refl _) (fun c hc => hoth c (by rintro rfl; exact hbR hc)) _ _ _ (fun c hc => by
    obtain ⟨x, hx, hcx⟩ := hmem c hc
    exact hoth c (by rintro rfl; exact h.dj r x (by rintro rfl; exact hnd'.1 hx) c hbr hcx)) q1
  have hnd6 : (b :: f1 ++ f0 ++ f2).Nodup := by rw [← m6]; exact h.nd r
  have hV := hput (w' := w') (R' := R) (σ' := σ) (fun _ h => h) (Le.refl _) (fun c hc => hoth c (by rintro rfl; exact hbR hc)) (fun c hc => hoth c (by
      rintro rfl
      simp only [List.cons_append, List.nodup_cons] at hnd6
      exact hnd6.1 (by simp at hc ⊢; rcases hc with hc | hc <;> simp [hc])))
    (setRow_heap w b cur _ et _ m2) hcs' hcl (.inr q4)
  have hrun : (execOp a.eval o).run P w = .ok .skip w' := by
    have hsc := run_storeRow (P := P) b (k * hh.sz + off) et lo hi' (a.eval y).cells.toList 0 cur w m2 m3 (by rw [hvl]; omega) q1.one
    simp only [Nat.add_zero] at hsc
    have hne : (a.eval y).cells.size = ti.size := by rw [g3]; simpa using hvl
    simp only [execOp, ho, Sem.run_bind, hu, Instr.storeAt, Instr.sureAddr, storeVar, sizeOf, typeInfo, run_program, Result.andThen_ok, g1, Sem.run_pure, hne, ne_eq, not_true_eq_false, if_false, hsc]
    rfl
  have hsub : ∀ c, c ∈ f1 ∨ c ∈ f2 → c ∈ fps r := fun c hc => by rw [m6]; simp; rcases hc with hc | hc <;> simp [hc]
  have hres := h.change (w' := w') (R' := R) (σ' := σ) (e := ⟨.void, rem, [(r, ⟨rt.pv.put k off cs, rt.links.filter fun l => !(l.1 == k && off ≤ l.2 && l.2 < off + i.size)⟩)], st.next⟩) (dst := o.dst) (u := Go.undef) hd (fun _ => b :: f1 ++ f ++ f2)
    (by simp) (fun _ h => h) (fun c hc => ⟨by rw [setRow_size]; exact (h.Rb c hc).1, .inl hc⟩) (Le.refl _) (fun c hc => hoth c (by rintro rfl; exact hbR hc))
    (by
      intro q hq hq' c hc
      refine hoth c ?_
      rintro rfl
      exact h.dj r q (by rintro rfl; exact hq' (by simp)) c hbr hc)
    (by
      intro q x hx
      simp only [List.mem_singleton, Prod.mk.injEq] at hx
      obtain ⟨rfl, rfl⟩ := hx
      exact ⟨hh, k1, hV, put_ty k4 _ _⟩)
    (by
      simp only [List.map_cons, List.map_nil, List.flatMap_cons, List.flatMap_nil, List.append_nil]
      have p1 : (b :: f1 ++ f ++ f2).Perm ((b :: f1 ++ f2) ++ f) := by
        rw [List.append_assoc, List.append_assoc]
        exact List.Perm.append_left _ List.perm_append_comm
      rw [p1.nodup_iff, List.nodup_append]
      refine ⟨?_, q2.nodup_iff.2 (perm_nodup h hnd'.2), ?_⟩
      · refine List.Sublist.nodup ?_ hnd6
        rw [List.append_assoc]
        exact List.Sublist.append_left (List.sublist_append_right _ _) _
      · rintro c hc d hd rfl
        obtain ⟨x, hx, hcx⟩ := hmem c hd
        have hcr : c ∈ fps r := by
          rw [m6]; simp at hc ⊢; rcases hc with hc | hc | hc <;> simp [hc]
        exact h.dj r x (by rintro rfl; exact hnd'.1 hx) c hcr hcx)
    (by
      intro q hq c hc
      have hcc : c ∈ fps r ∨ ∃ x ∈ rem, c ∈ fps x := by
        simp only [List.cons_append, List.mem_cons, List.mem_append] at hc
        rcases hc with rfl | (hc | hc) | hc
        · exact .inl hbr
        · exact .inl (hsub c (.inl hc))
        · exact .inr (hmem c hc)
        · exact .inl (hsub c (.inr hc))
      rcases hcc with hcc | ⟨x, hx, hcc⟩
      · obtain ⟨z1, z2, _⟩ := h.fb r c hcc
        exact ⟨by rw [setRow_size]; exact z1, z2, .inl ⟨r, by simp, hcc⟩⟩
      · obtain ⟨z1, z2, _⟩ := h.fb x c hcc
        exact ⟨by rw [setRow_size]; exact z1, z2, .inl ⟨x, by simp [hx], hcc⟩⟩)
    (by
      intro c h1 h2
      refine hoth c ?_
      rintro rfl
      rcases (h.fb r c hbr).2.2 with h3 | h3
      · exact h2 h3
      · omega)
    (by rw [setRow_size]; exact Nat.le_refl _) rfl rfl rfl (fun q hq => (h.fr q hq.1).1) (by simp; exact .inl ⟨_, k1⟩) (by simp [V, Go.undef])
  exact fun _ => ⟨_, _, w', R, σ, _, hrun, .inr ⟨rfl, rfl⟩, hres⟩

/-! ### append -/
theorem blk_lt {sz k : Nat} {v : Value} {us : List Value} (hr : Row w sz v k us) {b : Nat} (hb : blkOf v = some b) : b < w.heap.size := by
  rcases hr.2 with ⟨rfl, _⟩ | ⟨g, cap, cur, e, lo, hi, rfl, hg, _⟩
  · simp [blkOf] at hb
  · simp [blkOf] at hb; subst hb; exact (Array.getElem?_eq_some_iff.1 hg).1
theorem Row.cells {sz k : Nat} {v : Value} {us : List Value} (hr : Row w sz v k us) {A : Option Addr} {c : Nat} (hv : v = .slice A k c) (hk : 0 < k) :
    ∃ ad, A = some ad ∧ ∀ j u, us[j]? = some u → w.cell? (ad.add j) = some u := by
  subst hv
  rcases hr.2 with ⟨he, h0⟩ | ⟨g, cap, cur, e, lo, hi, he, hg, hm, hn, hc, hs, ht⟩
  · omega
  · simp only [Value.slice.injEq] at he
    obtain ⟨rfl, _, rfl⟩ := he
    refine ⟨_, rfl, fun j u hu => ?_⟩
    rw [add_lit', cell_of_row w g (0 + j) cur e (lo, hi) hg, Nat.zero_add]
    rw [← ht, List.getElem?_take] at hu
    split at hu
    · simpa using hu
    · cases hu
theorem Row.form {sz k : Nat} {v : Value} {us : List Value} (hr : Row w sz v k us) : ∃ A c, v = .slice A k c ∧ k ≤ c ∧ c ≤ maxLen := by
  rcases hr.2 with ⟨rfl, rfl⟩ | ⟨g, cap, cur, e, lo, hi, rfl, _, _, hn, hc, _⟩
  · exact ⟨none, 0, rfl, Nat.le_refl _, Nat.zero_le _⟩
  · exact ⟨_, cap, rfl, hn, hc⟩

theorem run_append_row (t ty e : TypeId) (i : TypeInfo) (z : Value) (ht : P.underlying t = some (.slice e)) (hi : P.info? e = some i) (hz : i.zero = some z) (hzs : z.cells.size = i.size) (hsz : 0 < i.size)
    (v : Value) (k : Nat) (us : List Value) (hrow : Row w i.size v k us)
    (A : Option Addr) (m c : Nat) (news : List Value) (hl : news.length = m * i.size) (hc : 0 < m → ∃ ad, A = some ad ∧ ∀ j u, news[j]? = some u → w.cell? (ad.add j) = some u) (h1 : ∀ u ∈ news, u.oneCell' = true)
    (hbytes : (k + m) * i.bytes ≤ 140737488355328) (h63 : k + m ≤ maxLen) :
    ∃ v' w', (Builtin.append_ #[t, t] ty #[v, .slice A m c]).run P w = .ok v' w' ∧ Row w' i.size v' (k + m) (us ++ news) ∧ v'.oneCell' = true ∧
      (∀ b, blkOf v' = some b → blkOf v = some b ∨ (b = w.heap.size ∧ b < w'.heap.size)) ∧ (∀ b, b < w.heap.size → blkOf v ≠ some b → w'.heap[b]? = w.heap[b]?) ∧
      w.heap.size ≤ w'.heap.size ∧ w'.tape = w.tape ∧ w'.os = w.os ∧ w'.output = w.output := by
  have h63' : k + m ≤ 9223372036854775807 := by rw [maxLen_val] at h63; exact h63
  rcases Nat.eq_zero_or_pos m with rfl | hm
  · obtain ⟨B, cap, rfl, hkc, hcm⟩ := hrow.form
    have hnil : news = [] := List.eq_nil_of_length_eq_zero (by simpa using hl)
    subst hnil
    refine ⟨.slice B k cap, w, ?_, by simpa using hrow, rfl, fun b hb => .inl hb, fun _ _ _ => rfl, Nat.le_refl _, rfl, rfl, rfl⟩
    have hl0 : ∀ x : Addr, (loadCells x 0).run P w = .ok #[] w := fun x => by simpa using run_loadCells_list (P := P) w x [] (by simp)
    cases A <;> cases B <;> simp [Builtin.append_, run_underlying ht, sizeOf, typeInfo, hi, Builtin.lenOf, Builtin.firstCells, hkc, hl0, storeCells]
  · obtain ⟨ad, rfl, hcell⟩ := hc hm
    have hgc : ∀ need old : Nat, need ≤ maxLen → need ≤ grownCap w need old e ∧ grownCap w need old e ≤ maxLen := fun need old hn => ⟨grownCap_ge w need old e, grownCap_le_maxLen w need old e hn⟩
    have grown : ∀ old : Nat, Row (w.drew.alloc (.cells (us.toArray ++ news.toArray ++ Builtin.zeroCells z.cells (grownCap w (k + m) old e - (k + m))) e)) i.size (.slice (some ⟨w.heap.size, 0, none⟩) (k + m) (grownCap w (k + m) old e)) (k + m) (us ++ news) := by
      intro old
      obtain ⟨hge, hle⟩ := hgc (k + m) old h63
      refine Row.new w.drew hge hle ?_ ?_
      · simp only [Array.size_append, List.size_toArray, size_zeroCells, hzs, hrow.1, hl, ← Nat.add_mul]
        congr 1
        omega
      · have hlen : (us ++ news).length = (k + m) * i.size := by rw [List.length_append, hrow.1, hl, Nat.add_mul]
        simp only [Array.toList_append, List.append_assoc]
        rw [← List.append_assoc, ← hlen]
        exact List.take_left' rfl
    have hnew : ∀ old : Nat, let w' := w.drew.alloc (.cells (us.toArray ++ news.toArray ++ Builtin.zeroCells z.cells (grownCap w (k + m) old e - (k + m))) e)
        (Builtin.append_ #[t, t] ty #[v, .slice (some ad) m c]).run P w = .ok (.slice (some ⟨w.heap.size, 0, none⟩) (k + m) (grownCap w (k + m) old e)) w' →
        ∃ v' w', (Builtin.append_ #[t, t] ty #[v, .slice (some ad) m c]).run P w = .ok v' w' ∧ Row w' i.size v' (k + m) (us ++ news) ∧ v'.oneCell' = true ∧
      (∀ b, blkOf v' = some b → blkOf v = some b ∨ (b = w.heap.size ∧ b < w'.heap.size)) ∧ (∀ b, b < w.heap.size → blkOf v ≠ some b → w'.heap[b]? = w.heap[b]?) ∧
      w.heap.size ≤ w'.heap.size ∧ w'.tape = w.tape ∧ w'.os = w.os ∧ w'.output = w.output := by
      intro old w' hr
      refine ⟨_, _, hr, grown old, rfl, ?_, fun b hb _ => heap_old w.drew _ b hb, by simp [w'], rfl, rfl, rfl⟩
      intro b hb
      simp [blkOf] at hb
      exact .inr ⟨hb.symm, by simp [w', ← hb]⟩
    rcases hrow.2 with ⟨rfl, rfl⟩ | ⟨g, cap, cur, e', lo, hi', rfl, hg, hmark, hkc, hcm, hcs, htake⟩
    · have hx : us = [] := List.eq_nil_of_length_eq_zero (by simpa using hrow.1)
      subst hx
      have hr := run_append_nil (P := P) w t ty e i z ht hi hz ad m c news hl hcell hm (by omega) (by have hb := hbytes; simp only [Nat.zero_add] at hb; omega)
      have := hnew 0
      simp only [Nat.zero_add, List.nil_append, Array.empty_append] at this ⊢
      exact this hr
    · by_cases hroom : k + m ≤ cap
      · have hfit : 0 + k * i.size + news.length ≤ cur.size := by rw [hl, hcs, Nat.zero_add, ← Nat.add_mul]; exact Nat.mul_le_mul_right _ hroom
        have hf := run_firstCells_some (P := P) w i.size m ad m c news hl hcell
        have hst := run_storeRow (P := P) g (0 + k * i.size) e' lo hi' news 0 cur w hg hmark (by omega) h1
        simp only [Nat.add_zero, Nat.zero_add] at hst
        refine ⟨.slice (some ⟨g, 0, none⟩) (k + m) cap, w.setRow g (putAt cur.toList (k * i.size) news).toArray, ?_, ?_, rfl, fun b hb => .inl hb, fun b _ hb => setRow_other w g b _ (fun e => hb (by simp [blkOf, e])), by simp, rfl, rfl, rfl⟩
        · simp [Builtin.append_, run_underlying ht, sizeOf, typeInfo, hi, Builtin.lenOf, hroom, hf, Addr.add_lit, hst]
        · have hlen : (us ++ news).length = (k + m) * i.size := by rw [List.length_append, hrow.1, hl, Nat.add_mul]
          have hpl : (putAt cur.toList (k * i.size) news).length = cur.toList.length := putAt_length (by simp; omega)
          refine ⟨hlen, .inr ⟨g, cap, _, e', lo, hi', rfl, setRow_heap w g cur _ e' _ hg, ?_, hroom, hcm, ?_, ?_⟩⟩
          · rw [List.size_toArray, hpl, Array.length_toList]; exact hmark
          · rw [List.size_toArray, hpl, Array.length_toList]; exact hcs
          · rw [List.toList_toArray, ← hlen]
            unfold putAt
            rw [htake]
            exact List.take_left' rfl
      · have holds : ∀ j u, us[j]? = some u → w.cell? ((⟨g, 0, none⟩ : Addr).add j) = some u := by
          rcases Nat.eq_zero_or_pos k with rfl | hk
          · have hx : us = [] := List.eq_nil_of_length_eq_zero (by simpa using hrow.1)
            subst hx; simp
          · obtain ⟨ad', h2, h3⟩ := hrow.cells rfl hk
            obtain rfl := Option.some.inj h2
            exact h3
        have hr := run_append_grow (P := P) w t ty e i z ht hi hz ⟨g, 0, none⟩ k cap us hrow.1 holds ad m c news hl hcell (by omega) (by omega) (growslice_fits (by omega) hbytes)
        exact hnew cap hr

/-- The elements of a slice that are read off, as cells. -/
theorem sliceEs_sound (h : Rel w0 R0 F0 gh E.G n Fr R σ fps st a w) {x : PV} {v : Value} {es : List PV} {l : List Nat} (he : sliceEs st x = some (es, l)) (hv : V w R σ x v []) :
    ∃ A c us sz f g, v = .slice A es.length c ∧ Es w R σ sz es us f ∧ (g ++ f).Perm (l.flatMap fps) ∧ es.length ≤ maxLen ∧ (0 < es.length → ∃ ad, A = some ad ∧ ∀ j u, us[j]? = some u → w.cell? (ad.add j) = some u) := by
  cases x <;> simp only [sliceEs] at he <;> try (cases he; done)
  · -- nil
    simp only [Option.some.injEq, Prod.mk.injEq] at he
    obtain ⟨rfl, rfl⟩ := he
    simp only [V] at hv
    exact ⟨none, 0, [], 0, [], [], hv.1, by simp [Es], by simp, by simp, by simp⟩
  · simp only [Option.some.injEq, Prod.mk.injEq] at he
    obtain ⟨rfl, rfl⟩ := he
    simp only [V] at hv
    obtain ⟨_, A, cap, us, sz, rfl, h1, h2, h3, h4⟩ := hv
    exact ⟨A, cap, us, sz, [], [], rfl, h4, by simp, Nat.le_trans h1 h2, fun hn => by obtain ⟨ad, e, _, hc⟩ := h3 hn; exact ⟨ad, e, hc⟩⟩
  · rename_i r
    split at he
    · rename_i sz es' l' hf
      simp only [Option.some.injEq, Prod.mk.injEq] at he
      obtain ⟨rfl, rfl⟩ := he
      obtain ⟨k, f, hk, hV, hty, hp⟩ := fold_sound h 4 r _ _ hf
      simp only [V] at hv
      obtain ⟨_, k', hk', rfl, _⟩ := hv
      obtain rfl : k = k' := by rw [hk] at hk'; exact Option.some.inj hk'
      simp only [V] at hV
      obtain ⟨us, fp', hrow, hes, rfl⟩ := hV
      obtain ⟨A, c, hh, h1, h2⟩ := hrow.form
      exact ⟨A, c, us, sz, fp', _, hh, hes, hp, Nat.le_trans h1 h2, fun hn => hrow.cells hh hn⟩
    · cases he

theorem Es.resize : ∀ {sz sz' : Nat} {es : List PV} {us : List Value} {f : List Nat}, (∀ e ∈ es, e.cells.length = sz') → Es w R σ sz es us f → Es w R σ sz' es us f
  | sz, sz', [], us, f, _, h => by simpa [Es] using h
  | sz, sz', e :: es, us, f, hl, h => by
    simp only [Es] at h ⊢
    obtain ⟨v, us', f1, f2, rfl, hs, h0, hu, hv, h2, rfl⟩ := h
    refine ⟨v, us', f1, f2, rfl, ?_, h0, hu, hv, Es.resize (fun x hx => hl x (by simp [hx])) h2, rfl⟩
    have := (V.cellsOf hv h0 hu).length
    rw [Array.length_toList] at this
    rw [this]; exact hl e (by simp)

theorem Es.flatL : ∀ {sz : Nat} {es : List PV} {us : List Value} {f : List Nat}, PVE.flatL es → Es w R σ sz es us f → f = []
  | sz, [], us, f, _, h => by simp only [Es] at h; exact h.2
  | sz, e :: es, us, f, hl, h => by
    simp only [Es] at h
    obtain ⟨v, us', f1, f2, rfl, hs, h0, hu, hv, h2, rfl⟩ := h
    have e2 := Es.flatL (fun x hx => hl x (by simp [hx])) h2
    have cell : ∀ {c : PV} {u : Value} {g : List Nat}, c.flatC = true → V w R σ c u g → g = [] := by
      intro c u g hc hv
      cases c <;> simp [PV.flatC] at hc <;> simp only [V] at hv
      · exact hv.2
      · exact hv.2
      · exact hv.2
      · exact hv.2.2
      · exact hv.1
    have cells : ∀ {cs : List PV} {us : List Value} {g : List Nat}, cs.all PV.flatC = true → Cs w R σ cs us g → g = [] := by
      intro cs
      induction cs with
      | nil => intro us g _ h; simp only [Cs] at h; exact h.2
      | cons c cs ih =>
        intro us g hc h
        simp only [List.all_cons, Bool.and_eq_true] at hc
        simp only [Cs] at h
        obtain ⟨u, us', g1, g2, rfl, _, h1, h2, rfl⟩ := h
        rw [cell hc.1 h1, ih hc.2 h2]; rfl
    have e1 : f1 = [] := by
      have hf := hl e (by simp)
      cases e with
      | agg cs =>
        simp only [V] at hv
        obtain ⟨us, _, hc⟩ := hv
        exact cells hf hc
      | _ => refine cell ?_ hv; exact hf
    rw [e1, e2]; rfl
/-- What a view shows, where it owns nothing. -/
theorem view_sound (h : Rel w0 R0 F0 gh E.G n Fr R σ fps st a w) {r x0 y0 : Nat} {v : Value} {es : List PV} (he : viewEs st.store r x0 y0 = some es) (hf : PVE.flatL es) (hv : V w R σ (.vw r x0 y0) v []) :
    ∃ A c us sz f g, v = .slice A es.length c ∧ Es w R σ sz es us f ∧ (g ++ f).Perm (([] : List Nat).flatMap fps) ∧ es.length ≤ maxLen ∧ (0 < es.length → ∃ ad, A = some ad ∧ ∀ j u, us[j]? = some u → w.cell? (ad.add j) = some u) := by
  unfold viewEs at he
  split at he
  case h_2 => cases he
  rename_i sz es0 links hr
  obtain rfl := Option.some.inj he
  obtain ⟨kk, q1, q2, q3⟩ := h.rt r _ hr
  simp only [V] at hv q2
  obtain ⟨_, k', A, m', c, B, c', hk', hhv, r1, r2, hxv, r3, r4, r5⟩ := hv
  obtain rfl : kk = k' := by rw [q1] at hk'; exact Option.some.inj hk'
  obtain ⟨us, fp', hrow, hes, hfp⟩ := q2
  simp only [RootTy] at q3
  obtain ⟨A1, c1, hform, hf1, hf2⟩ := hrow.form
  rw [hhv] at hform
  simp only [Value.slice.injEq] at hform
  obtain ⟨rfl, rfl, rfl⟩ := hform
  have hlen : ((es0.drop x0).take (y0 - x0)).length = y0 - x0 := by simp; omega
  have hsplit : es0 = es0.take x0 ++ ((es0.drop x0).take (y0 - x0) ++ (es0.drop x0).drop (y0 - x0)) := by rw [List.take_append_drop, List.take_append_drop]
  rw [hsplit] at hes
  obtain ⟨u1, u2, f1, f2, rfl, hff, h1, h2⟩ := Es.append.1 hes
  obtain ⟨u3, u4, f3, f4, rfl, hff2, h3, h4⟩ := Es.append.1 h2
  have hf3 := Es.flatL hf h3
  subst hf3
  have hl1 : u1.length = x0 * sz := by rw [h1.length, List.length_take, Nat.min_eq_left (by omega)]
  refine ⟨B, c', u3, sz, [], [], by rw [hxv, hlen], h3, by simp, by rw [hlen]; omega, fun hn => ?_⟩
  rw [hlen] at hn
  obtain ⟨ad, h5, h6⟩ := hrow.cells hhv (by omega)
  rw [h5] at r5
  refine ⟨ad.add (x0 * kk.sz), r5 (by omega), fun j u hu => ?_⟩
  rw [add_add', ← q3]
  refine h6 _ u ?_
  have hj : j < u3.length := (List.getElem?_eq_some_iff.1 hu).1
  rw [List.getElem?_append_right (by omega), hl1, Nat.add_sub_cancel_left, List.getElem?_append_left hj]
  exact hu

theorem out_append (hT : TyOk P E.T) (h : Rel w0 R0 F0 gh E.G n Fr R σ fps st a w) {o : Oper} (hd : dstOk n o.dst) {c : Call} {s x : Operand} {t el : Nat} {ti : TyI} (ho : o.op = .call c) (hc1 : c.callee = .builtin .append) (hc2 : c.args.toList = [s, x]) (hc3 : c.argTypes = #[t, t])
    {sz0 b0 : Nat} {z0 : List PV} (hTt : E.T t = some ⟨.slice el, sz0, b0, z0⟩) (hTe : E.T el = some ti) {p : Prop} {e : Eff} (he : appendE st ti (ev E st s) (ev E st x) = some (p, e)) (hp : p) : Out P E w0 R0 F0 gh n Fr st o a w e := by
  have ht : P.underlying t = some (.slice el) := (hT t _ hTt).1
  obtain ⟨_, tinf, z, g1, g2, g3, g4, g5, g6, g7, g8, g9⟩ := hT el ti hTe
  have hx := ev_V h x
  have hs := ev_V h s
  have hargs : c.args = #[s, x] := by rw [← Array.toArray_toList (xs := c.args), hc2]
  have hex : (execOp a.eval o).run P w = ((Builtin.append_ #[t, t] o.type #[a.eval s, a.eval x]).run P w).andThen fun v w' => .ok (.value v) w' := by
    simp only [execOp, ho, resolve, hc1, hc3, invoke, builtin, Sem.run_bind, Sem.run_pure, Result.andThen_ok, hargs, List.map_toArray, List.map_cons, List.map_nil]
  obtain ⟨new, l, p', hpp, hw', A, cc, us2, sz2, f2, gg, hxv, hes2, hperm2, hml2, hcell2⟩ : ∃ new l p', p' ∧ appendW st ti (ev E st s) new l = some (p', e) ∧ ∃ A c us sz f g, a.eval x = .slice A new.length c ∧ Es w R σ sz new us f ∧ (g ++ f).Perm (l.flatMap fps) ∧ new.length ≤ maxLen ∧ (0 < new.length → ∃ ad, A = some ad ∧ ∀ j u, us[j]? = some u → w.cell? (ad.add j) = some u) := by
    unfold appendE at he
    split at he
    · rename_i r x0 y0 hvx
      rw [hvx] at hx
      split at he
      case h_2 => cases he
      rename_i new hnew
      unfold andE at he
      split at he
      case h_2 => cases he
      rename_i p' e' hw'
      simp only [Option.some.injEq, Prod.mk.injEq] at he
      obtain ⟨rfl, rfl⟩ := he
      exact ⟨new, [], p', hp.2, hw', view_sound h hnew hp.1 hx⟩
    · split at he
      case h_2 => cases he
      rename_i new l hsl
      exact ⟨new, l, p, hp, he, sliceEs_sound h hsl hx⟩
  clear he hp
  have he := hw'
  have hp := hpp
  unfold appendW at he
  -- the common part
  have key : ∀ (rem : List Nat) (v : Value) (es : List PV) (us : List Value) (f1 : List Nat) (links : List (Nat × Nat)), a.eval s = v → Row w ti.size v es.length us → Es w R σ ti.size es us f1 → rem.Nodup → (∀ b ∈ f1, ∃ q ∈ rem, b ∈ fps q) → (∀ b, blkOf v = some b → ∃ q ∈ rem, b ∈ fps q) →
      ((blkOf v).toList ++ f1 ++ f2).Nodup → (∀ b ∈ f2, ∃ q ∈ rem, b ∈ fps q) → ((es.length + new.length) * ti.bytes ≤ 140737488355328 ∧ 0 < ti.bytes ∧ ∀ e ∈ new, e.cells.length = ti.size) →
      Out P E w0 R0 F0 gh n Fr st o a w ⟨.own st.next, rem, [(st.next, ⟨.slo ti.size (es ++ new), links⟩)], st.next + 1⟩ := by
    intro rem v es us f1 links hv hrow hes hnd hf1 hblk hnd2 hf2 hcond hFF
    have hF : Fr st.next := hFF _ (Nat.le_refl _) (Nat.lt_succ_self _)
    have hes2' := Es.resize hcond.2.2 hes2
    have hlen63 : es.length + new.length ≤ maxLen := by
      have : es.length + new.length ≤ (es.length + new.length) * ti.bytes := Nat.le_mul_of_pos_right _ hcond.2.1
      rw [maxLen_val]; omega
    obtain ⟨v', w', hrun, hrow', hone', hblk', hoth, hsz', htape, hos, hout⟩ := run_append_row (P := P) (w := w) t o.type el tinf z ht g1 g2 (by rw [g5, g3]) (by rw [g3]; exact g6) v es.length us (by rw [g3]; exact hrow) A new.length cc us2 (by rw [g3]; exact hes2'.length) hcell2 hes2'.one
      (by rw [g4]; exact hcond.1) hlen63
    rw [g3] at hrow'
    have hold : ∀ b, b < w.heap.size → (∀ q ∈ rem, b ∉ fps q) → w'.heap[b]? = w.heap[b]? := fun b hb hq => hoth b hb (fun hbv => by obtain ⟨q, h1, h2⟩ := hblk b hbv; exact hq q h1 h2)
    have hne : ∀ b, b ∈ f1 ∨ b ∈ f2 → blkOf v ≠ some b := by
      rintro b hb hbv
      rw [List.append_assoc, List.nodup_append] at hnd2
      exact hnd2.2.2 b (by simp [hbv]) b (by simpa using hb) rfl
    have hmono : ∀ b, R b → w'.heap[b]? = w.heap[b]? := fun b hb => hold b (h.Rb b hb).1 fun q _ hq => (h.fb q b hq).2.1 hb
    have hlt : ∀ b, (∃ q ∈ rem, b ∈ fps q) → b < w.heap.size := fun b ⟨q, _, hq⟩ => (h.fb q b hq).1
    have hV : V w' R (upd σ st.next (some ⟨v', ti.size⟩)) (.slo ti.size (es ++ new)) v' ((blkOf v').toList ++ (f1 ++ f2)) := by
      simp only [V]
      refine ⟨us ++ us2, f1 ++ f2, by rw [List.length_append]; exact hrow', Es.append.2 ⟨us, us2, f1, f2, rfl, rfl, ?_, ?_⟩, rfl⟩
      · exact Es.mono (fun _ h => h) (Le_new h hF _) hmono _ _ _ _ (fun b hb => hoth b (hlt b (hf1 b hb)) (hne b (.inl hb))) hes
      · exact Es.mono (fun _ h => h) (Le_new h hF _) hmono _ _ _ _ (fun b hb => hoth b (hlt b (hf2 b hb)) (hne b (.inr hb))) hes2'
    obtain ⟨fps', hrel⟩ := h.root hF (w' := w') (dst := o.dst) (pv := .slo ti.size (es ++ new)) (links := links) (val := .own st.next) (u := v') (rem := rem) (hd' := ⟨v', ti.size⟩) (f := (blkOf v').toList ++ (f1 ++ f2)) hd hold hsz' htape hos hout hV rfl
      (by
        rw [List.append_assoc, List.nodup_append] at hnd2
        rw [List.nodup_append]
        refine ⟨by cases blkOf v' <;> simp, hnd2.2.1, ?_⟩
        rintro b hb c hc rfl
        have hb' : blkOf v' = some b := by simpa using hb
        rcases hblk' b hb' with h1 | ⟨h1, _⟩
        · exact hnd2.2.2 b (by simp [h1]) b hc rfl
        · have : b < w.heap.size := by
            rcases List.mem_append.1 hc with hc | hc
            · exact hlt b (hf1 b hc)
            · exact hlt b (hf2 b hc)
          omega)
      (by
        intro b hb
        rcases List.mem_append.1 hb with hb | hb
        · have hb' : blkOf v' = some b := by simpa using hb
          rcases hblk' b hb' with h1 | ⟨h1, h2⟩
          · exact .inl (hblk b h1)
          · exact .inr ⟨by omega, h2⟩
        · rcases List.mem_append.1 hb with hb | hb
          · exact .inl (hf1 b hb)
          · exact .inl (hf2 b hb))
      (by simp only [V]; exact ⟨trivial, _, upd_same _ _ _, rfl, hone'⟩)
    refine ⟨.value v', v', w', R, _, fps', ?_, .inl rfl, hrel⟩
    rw [hex, hv, hxv, hrun]; rfl
  have hf2 : ∀ b ∈ f2, b ∈ l.flatMap fps := fun b hb => hperm2.mem_iff.1 (by simp [hb])
  cases hse : ev E st s <;> rw [hse] at he hs <;> simp only at he <;> try (cases he; done)
  · -- to nil
    split at he
    · rename_i hnd
      simp only [Option.some.injEq, Prod.mk.injEq] at he
      obtain ⟨hpe, rfl⟩ := he
      simp only [V] at hs
      have hnd2 : f2.Nodup := ((hperm2.nodup_iff.2 (perm_nodup h hnd))).sublist (List.sublist_append_right _ _)
      have := key l (.slice none 0 0) [] [] [] [] hs.1 ⟨by simp, .inl ⟨rfl, rfl⟩⟩ (by simp [Es]) hnd (by simp) (by simp [blkOf]) (by simpa [blkOf] using hnd2) (fun b hb => by simpa using List.mem_flatMap.1 (hf2 b hb)) (by rw [← hpe] at hp; simpa [allLen] using hp)
      simpa using this
    · cases he
  · -- to a root
    rename_i r
    split at he
    · rename_i sz es links hr
      split at he
      · rename_i hcond
        obtain ⟨hnd, rfl⟩ := hcond
        simp only [Option.some.injEq, Prod.mk.injEq] at he
        obtain ⟨hpe, rfl⟩ := he
        obtain ⟨k, q1, q2, q3⟩ := h.rt r _ hr
        simp only [V] at hs q2
        obtain ⟨_, k', hk', hsv, _⟩ := hs
        obtain rfl : k = k' := by rw [q1] at hk'; exact Option.some.inj hk'
        obtain ⟨us, fp', hrow, hes, hfp⟩ := q2
        have hnd' := List.nodup_cons.1 hnd
        have hndr := h.nd r
        rw [hfp] at hndr
        refine key (r :: l) k.hdr es us fp' links hsv hrow hes hnd (fun b hb => ⟨r, by simp, by rw [hfp]; simp [hb]⟩) (fun b hb => ⟨r, by simp, by rw [hfp]; simp [hb]⟩) ?_ (fun b hb => by obtain ⟨q, h1, h2⟩ := List.mem_flatMap.1 (hf2 b hb); exact ⟨q, by simp [h1], h2⟩) (by rw [← hpe] at hp; exact hp)
        rw [List.nodup_append]
        refine ⟨hndr, ((hperm2.nodup_iff.2 (perm_nodup h hnd'.2))).sublist (List.sublist_append_right _ _), ?_⟩
        rintro b hb d hd' rfl
        obtain ⟨q, h1, h2⟩ := List.mem_flatMap.1 (hf2 b hd')
        exact h.dj r q (by rintro rfl; exact hnd'.1 h1) b (by rw [hfp]; exact hb) h2
      · cases he
    · cases he
end
end Go.Proofs.YtanbccpabgcmaaaGreatDoor.PVE
