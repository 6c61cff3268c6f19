/- The PV engine, part 8: reading, writing, appending, slicing. -/
import Derived.Test.YtanbccpabgcmaaaGreatDoorE7
set_option linter.unusedVariables false
set_option linter.unusedSimpArgs false
set_option linter.unusedSectionVars false
namespace Go.Proofs.YtanbccpabgcmaaaGreatDoor.PVE
open PV

section
variable {P : Program} {E : Env} {w0 : World} {R0 : Nat → Prop} {F0 : List Nat} {gh : Nat → Value} {n : Nat} {Fr : Nat → Prop} {R : Nat → Prop} {σ : Nat → Option Hd} {fps : Nat → List Nat} {st : St} {a : Act} {w : World}

/-! ### Slice literals -/
theorem fill_all (size : Nat) : ∀ (vs : List Value) (j : Nat) (cur : Array Value), cur.size = (j + vs.length) * size → (∀ v ∈ vs, v.cells.size = size) →
    Instr.fill (fun i => some (i * size, size)) cur ((vs.zipIdx j).map fun x => (x.2, x.1)) = some (cur.toList.take (j * size) ++ vs.flatMap fun v => v.cells.toList).toArray
  | [], j, cur, hl, _ => by
    simp only [List.zipIdx_nil, List.map_nil, Instr.fill, List.flatMap_nil, List.append_nil, Option.some.injEq]
    have : cur.toList.length = j * size := by simpa using hl
    rw [← this, List.take_length]
  | v :: vs, j, cur, hl, hs => by
    have hv : v.cells.size = size := hs v (by simp)
    have hmul : (j + (vs.length + 1)) * size = j * size + size + vs.length * size := by rw [Nat.add_mul, Nat.add_mul]; omega
    simp only [List.length_cons] at hl
    simp only [List.zipIdx_cons, List.map_cons, Instr.fill]
    rw [if_neg (by rw [hv]; simp; rw [hl, hmul]; omega), fill_put_arr _ _ _ (by rw [hv, hl, hmul]; omega)]
    have hpl : (putAt cur.toList (j * size) v.cells.toList).length = cur.toList.length := putAt_length (by rw [Array.length_toList, Array.length_toList, hv, hl, hmul]; omega)
    rw [fill_all size vs (j + 1) _ (by rw [List.size_toArray, hpl, Array.length_toList, hl]; congr 1; omega) (fun x hx => hs x (by simp [hx]))]
    congr 2
    simp only [List.toList_toArray, List.flatMap_cons, ← List.append_assoc]
    congr 1
    unfold putAt
    have h1 : (cur.toList.take (j * size)).length = j * size := by rw [List.length_take, Array.length_toList, hl, hmul]; omega
    have h2 : (cur.toList.take (j * size) ++ v.cells.toList).length = (j + 1) * size := by rw [List.length_append, h1, Array.length_toList, hv, Nat.add_mul]; omega
    rw [← h2, List.take_left' rfl]

theorem zipIdx_of_range {α : Type} : ∀ (l : List (Nat × α)) (j : Nat), l.map (·.1) = List.range' j l.length → l = ((l.map (·.2)).zipIdx j).map fun x => (x.2, x.1)
  | [], j, _ => rfl
  | (i, x) :: l, j, h => by
    simp only [List.map_cons, List.length_cons, List.range'_succ, List.cons.injEq] at h
    obtain ⟨rfl, h⟩ := h
    simp only [List.map_cons, List.zipIdx_cons, List.cons.injEq, true_and]
    exact zipIdx_of_range l (i + 1) h

theorem inlE_sound (h : Rel w0 R0 F0 gh E.G n Fr R σ fps st a w) {e e' : PV} {v : Value} {l : List Nat} (he : inlE st.store e = some (e', l)) (hv : V w R σ e v []) :
    ∃ f, V w R σ e' v f ∧ f.Perm (l.flatMap fps) ∧ (∀ u ∈ v.cells, u.oneCell' = true) ∧ e' ≠ .undef ∧ v.cells.size = e'.cells.length := by
  rcases cells_Ts hv with ⟨ds, rfl, us, rfl, hc⟩ | ⟨h1, h2⟩
  · simp only [inlE] at he
    cases hi : inl st.store ds with
    | none => simp [hi] at he
    | some y =>
      simp only [hi, Option.map_some, Option.some.injEq, Prod.mk.injEq] at he
      obtain ⟨rfl, rfl⟩ := he
      obtain ⟨f, k1, k2, k3, k4⟩ := inl_sound h ds us _ _ hi hc.toTs
      refine ⟨f, by simp only [V]; exact ⟨us, rfl, k1⟩, k2, ?_, by simp, ?_⟩
      · intro u hu; exact k1.one u (by simpa [Value.cells] using hu)
      · simpa [Value.cells, PV.cells] using k1.length
  · have he' : (match inl st.store [e] with
      | some ([c'], l) => some (c', l)
      | _ => none) = some (e', l) := by
      cases e <;> first | exact he | exact absurd rfl (h2 _)
    split at he'
    · rename_i c' l' hi
      simp only [Option.some.injEq, Prod.mk.injEq] at he'
      obtain ⟨rfl, rfl⟩ := he'
      obtain ⟨f, k1, k2, k3, k4⟩ := inl_sound h [e] [v] _ _ hi (by simp only [Ts]; exact ⟨v, [], [], [], rfl, hv, ⟨rfl, rfl⟩, rfl⟩)
      have ho := k1.one v (by simp)
      simp only [Cs] at k1
      obtain ⟨u, _, f1, _, he1, _, hV, ⟨rfl, rfl⟩, rfl⟩ := k1
      obtain ⟨rfl, _⟩ : v = u ∧ True := by simpa using he1
      refine ⟨f1, hV, by simpa using k2, by rw [oneCell_cells ho]; simpa using ho, k4 _ (by simp), ?_⟩
      rw [oneCell_cells ho]
      cases c' with
      | agg cs => simp only [V] at hV; obtain ⟨us, rfl, _⟩ := hV; simp [Value.oneCell'] at ho
      | _ => rfl
    · cases he'

theorem inlEs_sound (h : Rel w0 R0 F0 gh E.G n Fr R σ fps st a w) : ∀ (es : List PV) (vs : List Value) (es' : List PV) (l : List Nat), inlEs st.store es = some (es', l) → Ts w R σ es vs [] →
    ∃ f, f.Perm (l.flatMap fps) ∧ vs.map (·.cells.size) = es'.map (·.cells.length) ∧ ∀ sz, (∀ e ∈ es', e.cells.length = sz) → Es w R σ sz es' (vs.flatMap fun v => v.cells.toList) f
  | [], vs, es', l, he, ht => by
    simp only [inlEs, Option.some.injEq, Prod.mk.injEq] at he
    obtain ⟨rfl, rfl⟩ := he
    simp only [Ts] at ht
    obtain ⟨rfl, _⟩ := ht
    exact ⟨[], by simp, rfl, fun sz _ => by simp [Es]⟩
  | e :: es, vs, es', l, he, ht => by
    simp only [Ts] at ht
    obtain ⟨v, vs', f1, f2, rfl, hv, hts, hf⟩ := ht
    obtain ⟨rfl, rfl⟩ : f1 = [] ∧ f2 = [] := by simpa using hf.symm
    simp only [inlEs] at he
    split at he
    · rename_i e1 l1 es1 l2 h1 h2
      simp only [Option.some.injEq, Prod.mk.injEq] at he
      obtain ⟨rfl, rfl⟩ := he
      obtain ⟨f, k1, k2, k3, k4, k5⟩ := inlE_sound h h1 hv
      obtain ⟨g, m1, m2, m3⟩ := inlEs_sound h es vs' es1 l2 h2 hts
      refine ⟨f ++ g, by rw [List.flatMap_append]; exact k2.append m1, by simp [k5, m2], fun sz hsz => ?_⟩
      simp only [Es, List.flatMap_cons]
      exact ⟨v, _, f, g, rfl, by rw [k5]; exact hsz e1 (by simp), k3, k4, k1, m3 sz (fun x hx => hsz x (by simp [hx])), rfl⟩
    · cases he

theorem evs_Ts (h : Rel w0 R0 F0 gh E.G n Fr R σ fps st a w) : ∀ (xs : List Operand), Ts w R σ (xs.map (ev E st)) (xs.map a.eval) []
  | [] => by simp [Ts]
  | x :: xs => by simp only [List.map_cons, Ts]; exact ⟨_, _, [], [], rfl, ev_V h x, evs_Ts h xs, rfl⟩

theorem out_buildSlice (hT : TyOk P E.T) (h : Rel w0 R0 F0 gh E.G n Fr R σ fps st a w) {o : Oper} (hd : dstOk n o.dst) {t len : Nat} {parts : Array (Nat × Operand)} (ho : o.op = .buildSlice t len parts) {p : Prop} {e : Eff} (he : eff E st o.op = some (p, e)) (hp : p) : Out P E w0 R0 F0 gh n Fr st o a w e := by
  rw [ho] at he
  simp only [eff] at he
  split at he
  · rename_i el sz by_ zero hTt
    split at he
    · rename_i i hTe
      split at he
      · rename_i es rem hi
        split at he
        · rename_i hcond
          obtain ⟨c1, c2, c3⟩ := hcond
          simp only [newRoot] at he
          split at he
          · rename_i hnd
            simp only [Option.some.injEq, Prod.mk.injEq] at he
            obtain ⟨_, rfl⟩ := he
            have ht : P.underlying t = some (.slice el) := (hT t _ hTt).1
            obtain ⟨_, ti, z, g1, g2, g3, g4, g5, g6, g7, g8, g9⟩ := hT el i hTe
            have hm : parts.toList.map (fun x => ev E st x.2) = (parts.toList.map (·.2)).map (ev E st) := by simp
            rw [hm] at hi
            obtain ⟨f, k1, k2, k3⟩ := inlEs_sound h _ _ es rem hi (evs_Ts h _)
            have hall : ∀ e ∈ es, e.cells.length = i.size := by
              intro e he
              have := List.all_eq_true.1 c2 e he
              simp at this
              exact this.1
            have hes := k3 i.size hall
            have hlen : parts.toList.length = len := by have := congrArg List.length c1; simpa using this
            have hesl : es.length = len := by have := congrArg List.length k2; simpa [hlen] using this.symm
            have hvsz : ∀ v ∈ (parts.toList.map (·.2)).map a.eval, v.cells.size = i.size := by
              intro v hv
              have hmem : v.cells.size ∈ ((parts.toList.map (·.2)).map a.eval).map (·.cells.size) := List.mem_map_of_mem hv
              rw [k2] at hmem
              obtain ⟨x, hx, hxe⟩ := List.mem_map.1 hmem
              rw [← hxe]; exact hall x hx
            have hzip := zipIdx_of_range (parts.toList.map fun x => (x.1, a.eval x.2)) 0 (by rw [List.map_map]; simp only [List.length_map, hlen]; rw [← List.range_eq_range', ← c1]; rfl)
            have hfill := fill_all i.size ((parts.toList.map (·.2)).map a.eval) 0 ((Array.range (len * i.size)).map ((if len * i.size = 0 then #[] else z.cells)[· % (if len * i.size = 0 then #[] else z.cells).size]!)) (by simp [hlen]) hvsz
            have hvals : (parts.toList.map fun x => (x.1, a.eval x.2)).map (·.2) = (parts.toList.map (·.2)).map a.eval := by simp
            rw [hvals] at hzip
            rw [← hzip] at hfill
            simp only [Nat.zero_mul, List.take_zero, List.nil_append] at hfill
            have hus : (((parts.toList.map (·.2)).map a.eval).flatMap fun v => v.cells.toList).length = len * i.size := by rw [hes.length, hesl]
            refine out_row h hd hnd hes k1 (v := .slice (some ⟨w.heap.size, 0, none⟩) len len) (w' := w.alloc (.cells (((parts.toList.map (·.2)).map a.eval).flatMap fun v => v.cells.toList).toArray el)) ?_ rfl ?_ (fun b hb => heap_old w _ b hb) (by simp) rfl rfl rfl ?_
            · rw [hesl]
              exact Row.new w (Nat.le_refl _) (by rw [maxLen_val]; have : len ≤ len * i.size := Nat.le_mul_of_pos_right _ g6; omega) (by simpa using hus) (by rw [List.toList_toArray, ← hus, List.take_length])
            · intro b hb
              simp [blkOf] at hb
              subst hb
              simp
            · have hbig : ¬ 2 ^ 24 < len * i.size := by omega
              by_cases h0 : len * i.size = 0
              · simp only [h0, if_true] at hfill
                simp only [execOp, ho, Instr.buildSlice, run_underlying ht, Sem.run_bind, Result.andThen_ok, sizeOf, typeInfo, run_program, g1, Sem.run_pure, g3, Sem.run_ite, hbig, h0, if_false, if_true, gt_iff_lt]
                simp only [Array.toList_map, hfill]
                simp [newRow, h0]
              · simp only [h0, if_false] at hfill
                simp only [execOp, ho, Instr.buildSlice, run_underlying ht, Sem.run_bind, Result.andThen_ok, sizeOf, typeInfo, run_program, g1, Sem.run_pure, g3, Sem.run_ite, hbig, h0, if_false, zeroValue, g2, gt_iff_lt]
                simp only [Array.toList_map, hfill]
                simp [newRow, h0]
          · cases he
        · cases he
      · cases he
    · cases he
  · cases he

end
end Go.Proofs.YtanbccpabgcmaaaGreatDoor.PVE
