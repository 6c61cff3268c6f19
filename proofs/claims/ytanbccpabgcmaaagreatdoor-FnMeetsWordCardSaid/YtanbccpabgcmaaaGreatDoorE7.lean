/- The PV engine, part 7: the operations that touch memory. -/
import Derived.Test.YtanbccpabgcmaaaGreatDoorE6
set_option linter.unusedVariables false
set_option linter.unusedSimpArgs false
set_option linter.unusedSectionVars false
namespace Go.Proofs.YtanbccpabgcmaaaGreatDoor.PVE
open PV

section
variable {P : Program} {E : Env} {w0 : World} {R0 : Nat → Prop} {F0 : List Nat} {gh : Nat → Value} {n : Nat} {Fr : Nat → Prop} {R : Nat → Prop} {σ : Nat → Option Hd} {fps : Nat → List Nat} {st : St} {a : Act} {w : World}

theorem heap_new (w : World) (o : Obj) : (w.alloc o).heap[w.heap.size]? = some o := heap_alloc_new w o
theorem heap_old (w : World) (o : Obj) (i : Nat) (h : i < w.heap.size) : (w.alloc o).heap[i]? = w.heap[i]? := by
  show (w.heap.push o)[i]? = _
  rw [Array.getElem?_push, if_neg (by omega)]

/-- A box: new cells, a pointer to them. -/
theorem out_box (h : Rel w0 R0 F0 gh E.G n Fr R σ fps st a w) {o : Oper} (hd : dstOk n o.dst) {cs : List PV} {us : Array Value} {t : Nat} {rem : List Nat} {f : List Nat} {links : List (Nat × Nat)} (hnd : rem.Nodup)
    (hc : Cs w R σ cs us.toList f) (hf : f.Perm (rem.flatMap fps)) (hr : (execOp a.eval o).run P w = .ok (.value (.pointer (some ⟨w.heap.size, 0, none⟩))) (w.alloc (.cells us t))) :
    Out P E w0 R0 F0 gh n Fr st o a w ⟨.addr st.next 0 0, rem, [(st.next, ⟨.pto cs, links⟩)], st.next + 1⟩ := by
  intro hFF
  have hF : Fr st.next := hFF _ (Nat.le_refl _) (Nat.lt_succ_self _)
  have hold : ∀ b, b < w.heap.size → (w.alloc (.cells us t)).heap[b]? = w.heap[b]? := fun b hb => heap_old w _ b hb
  have hmem : ∀ b ∈ f, ∃ x ∈ rem, b ∈ fps x := fun b hb => by
    obtain ⟨x, hx, hbx⟩ := List.mem_flatMap.1 (hf.mem_iff.1 hb); exact ⟨x, hx, hbx⟩
  have hV : V (w.alloc (.cells us t)) R (upd σ st.next (some ⟨.pointer (some ⟨w.heap.size, 0, none⟩), 0⟩)) (.pto cs) (.pointer (some ⟨w.heap.size, 0, none⟩)) (w.heap.size :: f) := by
    simp only [V]
    refine ⟨w.heap.size, us.toList, t, f, rfl, by rw [heap_new], ?_, rfl⟩
    exact Cs.mono (fun _ h => h) (Le_new h hF _) (fun b hb => hold b (h.Rb b hb).1) _ _ _ (fun b hb => by obtain ⟨x, _, hx⟩ := hmem b hb; exact hold b (h.fb x b hx).1) hc
  have hN : (w.heap.size :: f).Nodup := by
    rw [List.nodup_cons]
    refine ⟨fun hb => ?_, hf.nodup_iff.2 (perm_nodup h hnd)⟩
    obtain ⟨x, _, hx⟩ := hmem _ hb
    have := (h.fb x _ hx).1
    omega
  have hB : ∀ b ∈ w.heap.size :: f, (∃ x ∈ rem, b ∈ fps x) ∨ (w.heap.size ≤ b ∧ b < (w.alloc (.cells us t)).heap.size) := by
    intro b hb
    rcases List.mem_cons.1 hb with rfl | hb
    · exact .inr ⟨Nat.le_refl _, by simp⟩
    · exact .inl (hmem b hb)
  have hU : V (w.alloc (.cells us t)) R (upd σ st.next (some ⟨.pointer (some ⟨w.heap.size, 0, none⟩), 0⟩)) (.addr st.next 0 0) (.pointer (some ⟨w.heap.size, 0, none⟩)) [] := by
    simp only [V]
    exact ⟨trivial, _, w.heap.size, upd_same _ _ _, rfl, by simp⟩
  obtain ⟨fps', hrel⟩ := h.root hF (links := links) hd (fun b hb _ => hold b hb) (by simp) rfl rfl rfl hV trivial hN hB hU
  exact ⟨_, _, _, _, _, fps', hr, .inl rfl, hrel⟩

theorem out_alloc (hT : TyOk P E.T) (h : Rel w0 R0 F0 gh E.G n Fr R σ fps st a w) {o : Oper} (hd : dstOk n o.dst) {t : Nat} (ho : o.op = .alloc t) {p : Prop} {e : Eff} (he : eff E st o.op = some (p, e)) (hp : p) : Out P E w0 R0 F0 gh n Fr st o a w e := by
  rw [ho] at he
  simp only [eff] at he
  split at he
  · rename_i i hi
    simp only [newRoot, List.nodup_nil, if_true, Option.some.injEq, Prod.mk.injEq] at he
    obtain ⟨_, rfl⟩ := he
    obtain ⟨_, ti, z, h1, h2, h3, h4, h5, h6, h7, h8, h9⟩ := hT t i hi
    refine out_box h hd (us := z.cells) (t := t) (f := []) List.nodup_nil (zv_Cs h9).1 (by simp) ?_
    simp [execOp, ho, Instr.alloc, zeroValue, typeInfo, h1, h2, newVar, newRow]
  · cases he

theorem out_boxop (h : Rel w0 R0 F0 gh E.G n Fr R σ fps st a w) {o : Oper} (hd : dstOk n o.dst) {t : Nat} {x : Operand} (ho : o.op = .box t x) {p : Prop} {e : Eff} (he : eff E st o.op = some (p, e)) (hp : p) : Out P E w0 R0 F0 gh n Fr st o a w e := by
  rw [ho] at he
  simp only [eff] at he
  split at he
  · split at he
    · rename_i cs rem hi
      simp only [newRoot] at he
      split at he
      · rename_i hnd
        simp only [Option.some.injEq, Prod.mk.injEq] at he
        obtain ⟨_, rfl⟩ := he
        obtain ⟨f, k1, k2, k3, k4⟩ := inl_cells h hi (ev_V h x)
        refine out_box h hd (us := (a.eval x).cells) (t := t) hnd k1 k2 ?_
        simp [execOp, ho, Instr.box, newVar, newRow]
      · cases he
    · cases he
  · rename_i hb
    simp only [Option.some.injEq, Prod.mk.injEq] at he
    obtain ⟨_, rfl⟩ := he
    have hv := ev_V h x
    have hc : Cs w R σ (ev E st x).cells (a.eval x).cells.toList [] := by
      cases hx : ev E st x <;> rw [hx] at hb hv <;> simp only [boxLinks, List.isEmpty_nil, not_true_eq_false] at hb
      simp only [V] at hv
      obtain ⟨us, hu, hcs⟩ := hv
      rw [hu]
      simpa [PV.cells, Value.cells] using hcs
    refine out_box h hd (us := (a.eval x).cells) (t := t) (f := []) List.nodup_nil hc (by simp) ?_
    simp [execOp, ho, Instr.box, newVar, newRow]

/-- A slice literal, or any new row: a header to a new block. -/
theorem out_row (h : Rel w0 R0 F0 gh E.G n Fr R σ fps st a w) {o : Oper} (hd : dstOk n o.dst) {w' : World} {es : List PV} {us : List Value} {sz : Nat} {v : Value} {rem : List Nat} {f : List Nat} {links : List (Nat × Nat)} (hnd : rem.Nodup)
    (hes : Es w R σ sz es us f) (hf : f.Perm (rem.flatMap fps)) (hrow : Row w' sz v es.length us) (hv : v.oneCell' = true) (hblk : ∀ b, blkOf v = some b → w.heap.size ≤ b ∧ b < w'.heap.size)
    (hold : ∀ b, b < w.heap.size → w'.heap[b]? = w.heap[b]?) (hsz : w.heap.size ≤ w'.heap.size) (htape : w'.tape = w.tape) (hos : w'.os = w.os) (hout : w'.output = w.output)
    (hr : (execOp a.eval o).run P w = .ok (.value v) w') :
    Out P E w0 R0 F0 gh n Fr st o a w ⟨.own st.next, rem, [(st.next, ⟨.slo sz es, links⟩)], st.next + 1⟩ := by
  intro hFF
  have hF : Fr st.next := hFF _ (Nat.le_refl _) (Nat.lt_succ_self _)
  have hmem : ∀ b ∈ f, ∃ x ∈ rem, b ∈ fps x := fun b hb => by
    obtain ⟨x, hx, hbx⟩ := List.mem_flatMap.1 (hf.mem_iff.1 hb); exact ⟨x, hx, hbx⟩
  have hV : V w' R (upd σ st.next (some ⟨v, sz⟩)) (.slo sz es) v ((blkOf v).toList ++ f) := by
    simp only [V]
    refine ⟨us, f, hrow, ?_, rfl⟩
    exact Es.mono (fun _ h => h) (Le_new h hF _) (fun b hb => hold b (h.Rb b hb).1) _ _ _ _ (fun b hb => by obtain ⟨x, _, hx⟩ := hmem b hb; exact hold b (h.fb x b hx).1) hes
  have hN : ((blkOf v).toList ++ f).Nodup := by
    rw [List.nodup_append]
    refine ⟨by cases blkOf v <;> simp, hf.nodup_iff.2 (perm_nodup h hnd), ?_⟩
    rintro b hb c hc rfl
    obtain ⟨x, _, hx⟩ := hmem _ hc
    have h1 := (h.fb x _ hx).1
    have h2 := (hblk b (by simpa using hb)).1
    omega
  have hB : ∀ b ∈ (blkOf v).toList ++ f, (∃ x ∈ rem, b ∈ fps x) ∨ (w.heap.size ≤ b ∧ b < w'.heap.size) := by
    intro b hb
    rcases List.mem_append.1 hb with hb | hb
    · exact .inr (hblk b (by simpa using hb))
    · exact .inl (hmem b hb)
  have hU : V w' R (upd σ st.next (some ⟨v, sz⟩)) (.own st.next) v [] := by
    simp only [V]
    exact ⟨trivial, _, upd_same _ _ _, rfl, hv⟩
  obtain ⟨fps', hrel⟩ := h.root hF (links := links) hd (fun b hb _ => hold b hb) hsz htape hos hout hV rfl hN hB hU
  exact ⟨_, _, _, _, _, fps', hr, .inl rfl, hrel⟩

theorem maxLen_val : maxLen = 9223372036854775807 := rfl
theorem Row.new (w : World) {sz n cap : Nat} {cur : Array Value} {e : Nat} {us : List Value} (hn : n ≤ cap) (hc : cap ≤ maxLen) (hs : cur.size = cap * sz) (ht : cur.toList.take (n * sz) = us) :
    Row (w.alloc (.cells cur e)) sz (.slice (some ⟨w.heap.size, 0, none⟩) n cap) n us := by
  refine ⟨?_, .inr ⟨w.heap.size, cap, cur, e, 0, 0, rfl, heap_new w _, .inl ⟨rfl, rfl⟩, hn, hc, hs, ht⟩⟩
  rw [← ht, List.length_take, Array.length_toList, hs, Nat.min_eq_left (Nat.mul_le_mul_right _ hn)]

/-! ### Composite values -/
theorem fill_put (off : Nat) : ∀ (vs : List Value) (j : Nat) (cells : Array Value), off + j + vs.length ≤ cells.size →
    (vs.zipIdx j).foldl (fun cs (c : Value × Nat) => cs.setIfInBounds (off + c.2) c.1) cells = (putAt cells.toList (off + j) vs).toArray
  | [], j, cells, _ => by simp [putAt]
  | v :: vs, j, cells, hl => by
    simp only [List.zipIdx_cons, List.foldl_cons]
    rw [fill_put off vs (j + 1) _ (by simp at hl ⊢; omega)]
    congr 1
    have e := list_seg_step cells.toList (off + j) v vs (by simp at hl ⊢; omega)
    simpa [putAt, Array.toList_setIfInBounds, Nat.add_assoc] using e
theorem fill_put_arr (off : Nat) (vs : Array Value) (cells : Array Value) (h : off + vs.size ≤ cells.size) :
    vs.zipIdx.foldl (fun cs (c : Value × Nat) => cs.setIfInBounds (off + c.2) c.1) cells = (putAt cells.toList off vs.toList).toArray := by
  have := fill_put off vs.toList 0 cells (by simpa using h)
  rw [Nat.add_zero] at this
  rw [← this, ← Array.foldl_toList]
  congr 1
  simp [Array.toList_zipIdx]
theorem Cs.put {cs ds : List PV} {us vs : List Value} {off : Nat} (h : Cs w R σ cs us []) (k : Cs w R σ ds vs []) (hl : off + ds.length ≤ cs.length) : Cs w R σ (putCells cs off ds) (putAt us off vs) [] := by
  have hsplit : cs = cs.take off ++ ((cs.drop off).take ds.length ++ cs.drop (off + ds.length)) := by
    rw [← List.drop_drop, List.take_append_drop, List.take_append_drop]
  rw [hsplit] at h
  obtain ⟨p1, q, g1, gq, hq, hg, h1, h2⟩ := Cs.append.1 h
  obtain ⟨p2, p3, g0, g2, rfl, rfl, h3, h4⟩ := Cs.append.1 h2
  obtain ⟨rfl, rfl, rfl⟩ : g1 = [] ∧ g0 = [] ∧ g2 = [] := by simpa using hg.symm
  have l1 : p1.length = off := by rw [h1.length]; simp; omega
  have l2 : p2.length = vs.length := by rw [h3.length, k.length]; simp; omega
  subst hq
  have : putAt (p1 ++ (p2 ++ p3)) off vs = p1 ++ vs ++ p3 := by rw [← l1, ← List.append_assoc]; exact putAt_mid _ _ _ _ l2.symm
  rw [this]
  unfold putCells
  exact Cs.append.2 ⟨p1 ++ vs, p3, [], [], rfl, rfl, Cs.append.2 ⟨p1, vs, [], [], rfl, rfl, h1, k⟩, h4⟩
theorem cells_Cs {e : PV} {v : Value} (h : V w R σ e v []) (hs : e.cells.all (fun c => c.storable || (match c with | .own _ | .nilS => true | _ => false)) = true) : Cs w R σ e.cells v.cells.toList [] := by
  rcases cells_Ts h with ⟨ds, rfl, us, rfl, hc⟩ | ⟨h1, h2⟩
  · simpa [Value.cells, PV.cells] using hc
  · rw [h1] at hs ⊢
    have ho : v.oneCell' = true := by
      simp only [List.all_cons, List.all_nil, Bool.and_true, Bool.or_eq_true] at hs
      rcases hs with hs | hs
      · exact (storable_one hs h).1
      · cases e <;> simp at hs <;> simp only [V] at h
        · obtain ⟨rfl, _⟩ := h; rfl
        · exact h.2.choose_spec.2.2
    rw [oneCell_cells ho]
    simp only [List.toList_toArray, Cs]
    exact ⟨v, [], [], [], rfl, ho, h, ⟨rfl, rfl⟩, rfl⟩

theorem build_sound {T : Nat → Option TyI} (place : Nat → Option (Nat × Nat)) (fs : List (Nat × Nat)) (ρ : Operand → Value) (ρ' : Operand → PV) (hρ : ∀ x, V w R σ (ρ' x) (ρ x) [])
    (hpl : ∀ i off ft fi, fs[i]? = some (off, ft) → T ft = some fi → place i = some (off, fi.size)) :
    ∀ (parts : List (Nat × Operand)) (zero : List PV) (us : Array Value) (cs : List PV), Cs w R σ zero us.toList [] → buildCells T fs zero (parts.map fun x => (x.1, ρ' x.2)) = some cs →
      ∃ vs, Instr.fill place us (parts.map fun x => (x.1, ρ x.2)) = some vs ∧ Cs w R σ cs vs.toList []
  | [], zero, us, cs, hz, he => by
    simp only [List.map_nil, buildCells, Option.some.injEq] at he
    subst he
    exact ⟨us, rfl, hz⟩
  | (i, x) :: parts, zero, us, cs, hz, he => by
    simp only [List.map_cons, buildCells] at he
    split at he
    · rename_i off ft hfs
      split at he
      · rename_i fi hft
        split at he
        · rename_i hcond
          obtain ⟨c1, c2, c3⟩ := hcond
          have hc := cells_Cs (hρ x) c3
          have hsz : (ρ x).cells.size = fi.size := by rw [c1, ← hc.length]; simp
          have hus : us.size = zero.length := by rw [← hz.length]; simp
          have hnew := Cs.put hz hc c2
          have hfit : off + (ρ x).cells.size ≤ us.size := by rw [hsz, c1, hus]; exact c2
          obtain ⟨vs, k1, k2⟩ := build_sound place fs ρ ρ' hρ hpl parts (putCells zero off (ρ' x).cells) (putAt us.toList off (ρ x).cells.toList).toArray cs (by simpa using hnew) he
          refine ⟨vs, ?_, k2⟩
          simp only [List.map_cons, Instr.fill, hpl i off ft fi hfs hft]
          rw [if_neg (by simp [hsz]; rw [← hsz]; omega), fill_put_arr off _ _ hfit]
          exact k1
        · cases he
      · cases he
    · cases he

theorem mapM_some {α β : Type} (f : α → Option β) : ∀ (l : List α), (∀ x ∈ l, (f x).isSome = true) → ∃ r, l.mapM f = some r ∧ r.map some = l.map f
  | [], _ => ⟨[], rfl, rfl⟩
  | x :: l, h => by
    obtain ⟨y, hy⟩ := Option.isSome_iff_exists.1 (h x (by simp))
    obtain ⟨r, h1, h2⟩ := mapM_some f l (fun z hz => h z (by simp [hz]))
    exact ⟨y :: r, by simp [List.mapM_cons, hy, h1], by simp [hy, h2]⟩

theorem out_build (hT : TyOk P E.T) (h : Rel w0 R0 F0 gh E.G n Fr R σ fps st a w) {o : Oper} (hd : dstOk n o.dst) {t : Nat} {parts : Array (Nat × Operand)} (ho : o.op = .build t parts) {p : Prop} {e : Eff} (he : eff E st o.op = some (p, e)) (hp : p) : Out P E w0 R0 F0 gh n Fr st o a w e := by
  rw [ho] at he
  simp only [eff] at he
  split at he
  · rename_i fs sz by_ zero hTt
    split at he
    · rename_i cs hb
      obtain ⟨⟨fds, hu, hfds, hfsz⟩, ti, z, h1, h2, h3, h4, h5, h6, h7, h8, h9⟩ := hT t _ hTt
      obtain ⟨pl, hpl1, hpl2⟩ := mapM_some (fun f : Field => (P.info? f.type).map fun i => (f.offset, i.size)) fds.toList (fun f hf => by
        obtain ⟨ti, hti, _⟩ := hfsz f hf; simp [hti])
      obtain ⟨zs, rfl⟩ := h7 rfl
      obtain ⟨vs, k1, k2⟩ := build_sound (T := E.T) (fun i : Nat => pl[i]?) fs a.eval (ev E st) (fun x => ev_V h x) (by
        intro i off ft fi hfs hft
        have e1 : (pl.map some)[i]? = (fds.toList.map fun f : Field => (P.info? f.type).map fun i => (f.offset, i.size))[i]? := by rw [hpl2]
        rw [← hfds] at hfs
        rw [List.getElem?_map] at hfs e1
        rw [List.getElem?_map] at e1
        cases hf : fds.toList[i]? with
        | none => rw [hf] at hfs; cases hfs
        | some f =>
          rw [hf] at hfs e1
          simp only [Option.map_some, Option.some.injEq, Prod.mk.injEq] at hfs
          obtain ⟨rfl, rfl⟩ := hfs
          obtain ⟨_, ti', z', g1, g2, g3, _⟩ := hT _ _ hft
          simp only [g1, Option.map_some] at e1
          cases hp' : pl[i]? with
          | none => rw [hp'] at e1; cases e1
          | some q => rw [hp'] at e1; simp at e1; rw [e1, g3]) parts.toList zero zs cs (by have := (zv_Cs (w := w) (R := R) (σ := σ) h9).1; simpa [Value.cells] using this) hb
      refine out_plain h hd he (u := .agg vs) (by simp only [V]; exact ⟨vs.toList, by simp, k2⟩) ?_
      have hbuilt : P.built t (parts.map fun x => (x.1, a.eval x.2)).toList = some vs := by
        simp only [Program.built, h1, hu, h2, hpl1]
        have : (fun x : Nat => pl.toArray[x]?) = fun i => pl[i]? := by funext i; simp
        simp only [this, Value.cells, Array.toList_map]
        exact k1
      simp only [execOp, ho, Sem.run_bind, run_build w t _ vs hbuilt, Result.andThen_ok, Sem.run_pure]
    · cases he
  · cases he

end
end Go.Proofs.YtanbccpabgcmaaaGreatDoor.PVE
