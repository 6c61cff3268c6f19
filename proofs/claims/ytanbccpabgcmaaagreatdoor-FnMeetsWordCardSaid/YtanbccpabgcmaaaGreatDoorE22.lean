/- The PV engine, part 22: an operation of the machine is one of the model; a region's operations in any order. -/
import Derived.Test.YtanbccpabgcmaaaGreatDoorE21
import Derived.Still
set_option linter.unusedVariables false
set_option linter.unusedSimpArgs false
set_option linter.unusedSectionVars false
namespace Go.Proofs.YtanbccpabgcmaaaGreatDoor.PVE
open PV

section
variable {P : Program} {E : Env} {w0 : World} {R0 : Nat → Prop} {F0 : List Nat} {gh : Nat → Value} {n : Nat} {Fr : Nat → Prop} {st : St} {a : Act} {w : World} {call : Nat → List PV → Option Ans}

/-- The state stands for the frame; Fr: numbers that are free. -/
def RelF (E : Env) (w0 : World) (R0 : Nat → Prop) (F0 : List Nat) (gh : Nat → Value) (n : Nat) (Fr : Nat → Prop) (st : St) (a : Act) (w : World) : Prop := ∃ R σ fps, Rel w0 R0 F0 gh E.G n Fr R σ fps st a w
def RelX (E : Env) (w0 : World) (R0 : Nat → Prop) (F0 : List Nat) (gh : Nat → Value) (n : Nat) (st : St) (a : Act) (w : World) : Prop := RelF E w0 R0 F0 gh n (fun r => st.next ≤ r) st a w
theorem RelF.of (h : RelF E w0 R0 F0 gh n Fr st a w) {Fr' : Nat → Prop} {st' : St} (hf : ∀ r, Fr' r → Fr r) (ht : st'.temps = st.temps) (hs : st'.store = st.store) : RelF E w0 R0 F0 gh n Fr' st' a w := by
  obtain ⟨R, σ, fps, h⟩ := h
  refine ⟨R, σ, fps, ⟨fun t => by rw [ht]; exact h.tm t, fun r x hx => h.rt r x (by rw [← hs]; exact hx), fun r hx => h.nn r (by rw [← hs]; exact hx), h.nd, h.dj, h.fb, h.Rb, h.R0R, h.keep, h.sz, h.tape, h.os, h.out, fun r hr => ?_, h.gl, h.nt, h.df⟩⟩
  rw [hs]; exact h.fr r (hf r hr)

def CallOk (P : Program) (E : Env) (call : Nat → List PV → Option Ans) : Prop := ∀ f xs a, call f xs = some a → PCalls P E.G f xs a.bks a.res (E.M f).al

theorem opR_sound {next : Act → World → Prop} {Q : Exit → Act → World → Prop} (hT : TyOk P E.T) (hS : SOk P E.S) (hcall : CallOk P E call) (h : RelF E w0 R0 F0 gh n Fr st a w) {o : Oper} (hd : dstOk n o.dst) {p : Prop} {e : Eff} (he : opR call E st o.op = some (p, e)) (hp : p)
    (hF : ∀ r, st.next ≤ r → r < e.nx → Fr r)
    (hK : ∀ w' u, RelF E w0 R0 F0 gh n (frA Fr st.next e.nx) (st.app o.dst e) (a.put o.dst u) w' → next (a.put o.dst u) w') : o.wp P a w next Q := by
  obtain ⟨R, σ, fps, h⟩ := h
  rcases op_cases o.op with ⟨f, args, tys, ho⟩ | ho
  · rw [ho, opR_call] at he
    split at he
    case h_2 => cases he
    rename_i g caps hf
    refine call_sound (K := fun e' => e' = e) h hd ho hf ?_ (fun e' he' => by subst he'; exact hF) (fun e' w' R' σ' fps' u he' hr => by subst he'; exact hK w' u ⟨R', σ', fps', hr⟩)
    unfold callE at he
    split at he
    · cases he
    rename_i A hA
    cases hc : call g A.vs with
    | none => rw [hc] at he; simp [retE] at he
    | some ans =>
      rw [hc] at he
      simp only [retE] at he
      split at he
      · cases he
      rename_i l hl
      simp only [Option.some.injEq, Prod.mk.injEq] at he
      obtain ⟨rfl, rfl⟩ := he
      unfold callP
      rw [hA]
      refine ⟨hp, ans.bks, ans.res, (E.M g).al, hcall _ _ _ hc, ?_⟩
      rw [hl]
  · rw [opR_other ho] at he
    obtain ⟨nx, u, w', R', σ', fps', hr, hn, hrel⟩ := eff_sound hT hS h hd he hp hF
    unfold Oper.wp
    rw [hr]
    rcases hn with rfl | ⟨rfl, rfl⟩
    · rw [Oper.upon_value]; exact hK w' u ⟨R', σ', fps', hrel⟩
    · rw [Oper.upon_skip]; exact hK w' _ ⟨R', σ', fps', hrel⟩

theorem opR_nx {o : Op} {p : Prop} {e : Eff} (he : opR call E st o = some (p, e)) : st.next ≤ e.nx := by
  rcases op_cases o with ⟨f, args, tys, rfl⟩ | ho
  · rw [opR_call] at he
    split at he
    case h_2 => cases he
    unfold callE at he
    split at he
    · cases he
    unfold retE at he
    split at he
    · cases he
    split at he
    · cases he
    simp only [Option.some.injEq, Prod.mk.injEq] at he
    obtain ⟨_, rfl⟩ := he
    exact Nat.le_add_right _ _
  · rw [opR_other ho] at he
    exact eff_nx he

/-! ### Only the operands' values, and the roots that they show, count -/
section local_
variable {s s' : Nat → Option Root}
theorem roLeaf_local {x v : PV} {l : List Nat} (he : roLeaf s x = some (v, l)) (ht : ∀ r ∈ touch s [x], s r = s' r) : roLeaf s' x = some (v, l) := by
  have key : ∀ r pv l', r ∈ hands x → foldR s 4 r = some (pv, l') → foldR s' 4 r = some (pv, l') := fun r pv l' hr hf => reach_local (s := s) (s' := s') (fun q hq => ht q (by rw [touch_one]; exact List.mem_flatMap.2 ⟨r, hr, hq⟩)) hf
  cases x <;> simp only [roLeaf] at he ⊢ <;> try exact he
  case vw r x0 y0 =>
    split at he
    case h_2 => cases he
    rename_i hf
    rw [reach_local (s := s) (s' := s') (fun q hq => ht q (by rw [touch_one]; simp only [hands, List.flatMap_cons, List.mem_append]; exact .inl hq)) hf]
    exact he
  · rename_i r
    cases hf : foldR s 4 r with
    | none => simp [hf] at he
    | some y => rw [key r y.1 y.2 (by simp [hands]) hf]; rw [hf] at he; exact he
  · rename_i r i off
    split at he
    · rename_i pv l' hf
      rw [key r _ _ (by simp [hands]) hf]
      exact he
    · cases he
theorem roL_local : ∀ {cs cs' : List PV} {l : List Nat}, roL s cs = some (cs', l) → (∀ r ∈ touch s cs, s r = s' r) → roL s' cs = some (cs', l)
  | [], cs', l, he, _ => by simpa [roL] using he
  | c :: cs, cs', l, he, ht => by
    simp only [roL] at he ⊢
    split at he
    · rename_i c' l1 cs'' l2 h1 h2
      rw [roLeaf_local h1 (fun r hr => ht r (touch_sub (by simp) r hr)), roL_local h2 (fun r hr => ht r (touch_sub (fun x hx => by simp [hx]) r hr))]
      exact he
    · cases he
theorem roArg_local {x v : PV} {l : List Nat} (he : roArg s x = some (v, l)) (ht : ∀ r ∈ touch s [x], s r = s' r) : roArg s' x = some (v, l) := by
  cases x with
  | agg cs =>
    simp only [roArg] at he ⊢
    cases hf : roL s cs with
    | none => simp [hf] at he
    | some y => rw [roL_local (cs' := y.1) (l := y.2) hf (by rw [touch_one] at ht; exact ht)]; rw [hf] at he; exact he
  | fn g cs =>
    simp only [roArg] at he ⊢
    cases hf : roL s cs with
    | none => simp [hf] at he
    | some y => rw [roL_local (cs' := y.1) (l := y.2) hf (by rw [touch_one] at ht; exact ht)]; rw [hf] at he; exact he
  | _ => simp only [roArg] at he ⊢; exact roLeaf_local he ht
theorem mkArgs_local : ∀ {ms : List Nat} {xs : List PV} {A : Args}, mkArgs s ms xs = some A → (∀ r ∈ touch s xs, s r = s' r) → mkArgs s' ms xs = some A
  | ms, [], A, he, _ => by simpa [mkArgs] using he
  | ms, x :: xs, A, he, ht => by
    simp only [mkArgs] at he ⊢
    split at he
    · cases he
    rename_i A1 hA1
    rw [mkArgs_local hA1 (fun r hr => ht r (touch_sub (fun x hx => by simp [hx]) r hr))]
    simp only
    have ht1 : ∀ r ∈ touch s [x], s r = s' r := fun r hr => ht r (touch_sub (by simp) r hr)
    have key : ∀ r pv l', r ∈ hands x → foldR s 4 r = some (pv, l') → foldR s' 4 r = some (pv, l') := fun r pv l' hr hf => reach_local (s := s) (s' := s') (fun q hq => ht1 q (by rw [touch_one]; exact List.mem_flatMap.2 ⟨r, hr, hq⟩)) hf
    split at he
    · rename_i hm
      split at he
      · rename_i v l hr
        rw [roArg_local hr ht1]
        exact he
      · cases he
    · rename_i m hm
      split at he
      · rename_i r
        split at he
        · rename_i sz es l hf
          rw [key r _ _ (by simp [hands]) hf]
          exact he
        · cases he
      · rename_i r
        split at he
        · rename_i cs l hf
          rw [key r _ _ (by simp [hands]) hf]
          exact he
        · cases he
      · exact he
      · rename_i cs
        split at he
        · rename_i cs' l hi
          rw [inl_local _ _ _ hi (by rw [touch_one] at ht1; exact ht1)]
          exact he
        · cases he
      · cases he
end local_

theorem eff_storeless {t : Nat → PV} {s s' : Nat → Option Root} {nx : Nat} {o : Op} (ho : storeless o = true) : eff E ⟨t, s, nx⟩ o = eff E ⟨t, s', nx⟩ o := by
  have hev : ev E ⟨t, s', nx⟩ = ev E ⟨t, s, nx⟩ := ev_fun
  cases o <;> simp [storeless] at ho <;> simp only [eff] <;> (try rw [hev]) <;> (repeat' (first | rfl | split))

/-- What an operation does is the same wherever its operands' values are, and the roots that they show. -/
theorem opR_local {st st' : St} {o : Op} {pe : Prop × Eff} (hn : st.next = st'.next) (hv : ∀ x ∈ o.operands, ev E st x = ev E st' x) (ht : ∀ r ∈ touchOp E st o, st.store r = st'.store r) (he : opR call E st o = some pe) : opR call E st' o = some pe := by
  obtain ⟨t, s, nx⟩ := st
  obtain ⟨t', s', nx'⟩ := st'
  simp only at hn ht
  subst hn
  rcases op_cases o with ⟨f, args, tys, rfl⟩ | ho
  · have hf : ev E ⟨t, s, nx⟩ f = ev E ⟨t', s', nx⟩ f := hv f (by simp [Op.operands, Call.operands])
    have ha : args.toList.map (ev E ⟨t, s, nx⟩) = args.toList.map (ev E ⟨t', s', nx⟩) := List.map_congr_left fun x hx => hv x (by simp only [Op.operands, Call.operands, Array.mem_append]; exact .inr (by simpa using hx))
    rw [opR_call] at he ⊢
    rw [← hf, ← ha]
    split at he
    case h_2 => cases he
    rename_i g caps hfo
    unfold callE at he ⊢
    split at he
    · cases he
    rename_i A hA
    simp only at hA
    have htt : ∀ r ∈ touch s (args.toList.map (ev E ⟨t, s, nx⟩) ++ caps), s r = s' r := by
      intro r hr
      have hsub : ∀ q ∈ handsL (args.toList.map (ev E ⟨t, s, nx⟩) ++ caps), q ∈ handsL (valsOf E ⟨t, s, nx⟩ (.call ⟨.value f, args, tys⟩)) := by
        intro q hq
        have happ : ∀ (xs ys : List PV), handsL (xs ++ ys) = handsL xs ++ handsL ys := by
          intro xs ys
          induction xs with
          | nil => rfl
          | cons x xs ih => simp [handsL, ih]
        rw [happ, List.mem_append] at hq
        rcases hq with hq | hq
        · exact handsL_sub (fun y hy => by
            obtain ⟨x, hx, rfl⟩ := List.mem_map.1 hy
            exact val_mem (by simp only [Op.operands, Call.operands, Array.mem_append]; exact .inr (by simpa using hx))) q hq
        · exact handsL_mem (val_mem (x := f) (by simp [Op.operands, Call.operands])) q (by rw [hfo]; exact hq)
      obtain ⟨q, hq, hr⟩ := List.mem_flatMap.1 hr
      exact ht r (List.mem_flatMap.2 ⟨q, hsub q hq, hr⟩)
    have := mkArgs_local hA htt
    simp only [this]
    exact he
  · rw [opR_other ho] at he ⊢
    have h1 : eff E ⟨t, s', nx⟩ o = eff E ⟨t', s', nx⟩ o := eff_temps (st := ⟨t, s', nx⟩) (st' := ⟨t', s', nx⟩) rfl rfl (fun x hx => by rw [ev_store (s' := s) (n' := nx)]; exact hv x hx)
    rw [← h1]
    unfold touchOp at ht
    split at ht
    · rename_i hs
      rw [← eff_storeless (s := s) hs]; exact he
    · exact eff_store ht he

theorem yield_bool (h : RelF E w0 R0 F0 gh n Fr st a w) {ops : Array Oper} {j d : Nat} {b : Bool} (hj : (ops[j]?).bind (·.dst) = some d) (hb : ev E st (.tmp d) = .bool b) : yielded ops a.tmps j = some b := by
  obtain ⟨R, σ, fps, h⟩ := h
  have := ev_V h (.tmp d)
  rw [hb] at this
  simp only [V] at this
  have h1 := this.1
  simp only [Act.eval] at h1
  unfold yielded
  rw [hj]
  simp only [Option.bind_some]
  rw [Array.getD_eq_getD_getElem?] at h1
  cases hx : a.tmps[d]? with
  | none => rw [hx] at h1; simp [Go.undef] at h1
  | some v => rw [hx] at h1; simp at h1; subst h1; rfl
theorem yield_void (h : RelF E w0 R0 F0 gh n Fr st a w) {ops : Array Oper} {j d : Nat} (hj : (ops[j]?).bind (·.dst) = some d) (hb : ev E st (.tmp d) = .void) : yielded ops a.tmps j = none := by
  obtain ⟨R, σ, fps, h⟩ := h
  have := ev_V h (.tmp d)
  rw [hb] at this
  simp only [V] at this
  have h1 := this.1
  simp only [Act.eval] at h1
  unfold yielded
  rw [hj]
  simp only [Option.bind_some]
  rw [Array.getD_eq_getD_getElem?] at h1
  cases hx : a.tmps[d]? with
  | none => rfl
  | some v => rw [hx] at h1; simp at h1; subst h1; rfl


theorem RelF.skip (h : RelF E w0 R0 F0 gh n Fr st a w) {dst : Option Nat} (hd : dstOk n dst) : RelF E w0 R0 F0 gh n Fr (st.skip dst) (a.put dst Go.undef) w := by
  obtain ⟨R, σ, fps, h⟩ := h
  have := h.value (v := .void) (u := Go.undef) hd (by simp [V, Go.undef])
  exact RelF.of ⟨R, σ, fps, this⟩ (fun r hr => ⟨hr, by omega⟩) rfl rfl
theorem setT_same {d : Nat} {v : PV} (h : st.temps d = v) : st.setT d v = st := by
  obtain ⟨t, s, nx⟩ := st
  simp only [St.setT]
  congr 1
  funext x
  by_cases hx : x = d
  · subst hx; rw [upd_same]; exact h.symm
  · rw [upd_other _ _ _ hx]
theorem ev_bool {d : Nat} {b : Bool} (h : ev E st (.tmp d) = .bool b) : st.temps d = .bool b := by
  simp only [ev] at h
  split at h
  · exact h
  · cases h

theorem drawOk_after {ops : Array Oper} (h : drawOk ops = true) {i : Nat} {o : Oper} (hi : ops[i]? = some o) : ∀ e ∈ o.after, Region.binds .any e = true → e.on < i := by
  have hlt : i < ops.size := (Array.getElem?_eq_some_iff.1 hi).1
  have := List.all_eq_true.1 h i (by simpa using hlt)
  simp only [hi, Bool.and_eq_true] at this
  have h1 := this.1
  exact fun e he hb => by have := List.all_eq_true.1 h1 e (Array.mem_toList_iff.2 he); simpa [hb] using this
theorem drawOk_guard {ops : Array Oper} (h : drawOk ops = true) {i : Nat} {o : Oper} (hi : ops[i]? = some o) {g : Nat} {want : Bool} (hg : o.guard = some (g, want)) : ∃ e ∈ o.after, Region.binds .any e = true ∧ e.on = g := by
  have hlt : i < ops.size := (Array.getElem?_eq_some_iff.1 hi).1
  have := List.all_eq_true.1 h i (by simpa using hlt)
  simp only [hi, hg, Bool.and_eq_true] at this
  obtain ⟨e, he, hb⟩ := List.any_eq_true.1 this.2.1
  exact ⟨e, Array.mem_toList_iff.1 he, by simpa using hb⟩
theorem drawOk_dst {ops : Array Oper} (h : drawOk ops = true) {i j : Nat} {o : Oper} {d : Nat} (hi : ops[i]? = some o) (hj : dstAt ops j = some d) : (j = i ∨ o.dst ≠ some d) ∧ ((∃ x ∈ o.op.operands, x = .tmp d) → (∃ e ∈ o.after, Region.binds .any e = true ∧ e.on = j) ∨ ∃ oj, ops[j]? = some oj ∧ ∃ e ∈ oj.after, Region.binds .any e = true ∧ e.on = i) := by
  have hlt : i < ops.size := (Array.getElem?_eq_some_iff.1 hi).1
  have hjl : j < ops.size := by
    unfold dstAt at hj
    cases hx : ops[j]? with
    | none => simp [hx] at hj
    | some _ => exact (Array.getElem?_eq_some_iff.1 hx).1
  have := List.all_eq_true.1 h i (by simpa using hlt)
  simp only [hi, Bool.and_eq_true] at this
  have h2 := List.all_eq_true.1 this.2.2 j (by simpa using hjl)
  simp only [hj, Bool.and_eq_true, Bool.or_eq_true] at h2
  refine ⟨by simpa using h2.1, fun ⟨x, hx, hxd⟩ => ?_⟩
  rcases h2.2 with (h3 | h3) | h3
  · have : (o.op.operands.toList.any (isTmp d)) = true := List.any_eq_true.2 ⟨x, Array.mem_toList_iff.2 hx, by subst hxd; simp [isTmp]⟩
    rw [this] at h3
    cases h3
  · obtain ⟨e, he, hb⟩ := List.any_eq_true.1 h3
    exact .inl ⟨e, Array.mem_toList_iff.1 he, by simpa using hb⟩
  · split at h3
    · rename_i oj hoj
      obtain ⟨e, he, hb⟩ := List.any_eq_true.1 h3
      exact .inr ⟨oj, hoj, e, Array.mem_toList_iff.1 he, by simpa using hb⟩
    · cases h3


theorem dstAt_get {ops : Array Oper} {i : Nat} {o : Oper} (hi : ops[i]? = some o) : dstAt ops i = o.dst := by simp [dstAt, hi]

/-- One operation of a region. -/
def StepD (call : Nat → List PV → Option Ans) (E : Env) (n : Nat) (ops : Array Oper) (o : Oper) (s s' : St) (T W : List Nat) : Prop :=
  dstOk n o.dst ∧ (((o.guard = none ∨ ∃ g want d, o.guard = some (g, want) ∧ dstAt ops g = some d ∧ ev E s (.tmp d) = .bool want) ∧
      ∃ p e, opR call E s o.op = some (p, e) ∧ p ∧ s' = s.app o.dst e ∧ T = touchOp E s o.op ∧ W = e.W) ∨
    ((∃ g want d, o.guard = some (g, want) ∧ dstAt ops g = some d ∧ ((∃ b, ev E s (.tmp d) = .bool b ∧ b ≠ want) ∨ ev E s (.tmp d) = .void)) ∧ s' = s.skip o.dst ∧ T = [] ∧ W = []))
theorem StepD.next {ops : Array Oper} {o : Oper} {s s' : St} {T W : List Nat} (h : StepD call E n ops o s s' T W) : s.next ≤ s'.next := by
  rcases h.2 with ⟨_, p, e, h1, _, rfl, _⟩ | ⟨_, rfl, _⟩
  · exact opR_nx h1
  · exact Nat.le_refl _
theorem StepD.temps {ops : Array Oper} {o : Oper} {s s' : St} {T W : List Nat} (h : StepD call E n ops o s s' T W) {t : Nat} (ht : o.dst ≠ some t) : s'.temps t = s.temps t := by
  have key : ∀ v, s.put o.dst v t = s.temps t := by
    intro v
    cases hd : o.dst with
    | none => rfl
    | some d => exact upd_other _ _ _ (by rintro rfl; exact ht hd)
  rcases h.2 with ⟨_, p, e, _, _, rfl, _⟩ | ⟨_, rfl, _⟩
  · exact key _
  · exact key _
theorem applyStore_not {s : Nat → Option Root} {rem : List Nat} {add : List (Nat × Root)} {r : Nat} (h : r ∉ rem ++ add.map (·.1)) : applyStore s rem add r = s r := by
  simp only [List.mem_append, not_or] at h
  rw [store_rem h.2, if_neg h.1]
theorem foldAdd_same (add : List (Nat × Root)) : ∀ (s s' : Nat → Option Root) (r : Nat), r ∈ add.map (·.1) → (add.foldl (fun s x => upd s x.1 (some x.2)) s) r = (add.foldl (fun s x => upd s x.1 (some x.2)) s') r := by
  induction add with
  | nil => intro s s' r h; simp at h
  | cons x add ih =>
    intro s s' r h
    rw [List.foldl_cons, List.foldl_cons]
    by_cases hr : r ∈ add.map (·.1)
    · exact ih _ _ r hr
    · rw [foldAdd_not _ _ _ hr, foldAdd_not _ _ _ hr]
      rw [List.map_cons] at h
      rcases List.mem_cons.1 h with rfl | h
      · rw [upd_same, upd_same]
      · exact absurd h hr
theorem applyStore_mem {s s' : Nat → Option Root} {rem : List Nat} {add : List (Nat × Root)} {r : Nat} (h : r ∈ rem ++ add.map (·.1)) : applyStore s rem add r = applyStore s' rem add r := by
  by_cases ha : r ∈ add.map (·.1)
  · exact foldAdd_same add _ _ r ha
  · have hr : r ∈ rem := (List.mem_append.1 h).resolve_right ha
    rw [store_rem ha, store_rem ha, if_pos hr, if_pos hr]
theorem StepD.store {ops : Array Oper} {o : Oper} {s s' : St} {T W : List Nat} (h : StepD call E n ops o s s' T W) {r : Nat} (hr : r ∉ W) : s'.store r = s.store r := by
  rcases h.2 with ⟨_, p, e, _, _, rfl, _, rfl⟩ | ⟨_, rfl, _⟩
  · exact applyStore_not hr
  · rfl

/-! ### What comes before what -/
inductive Bef (ops : Array Oper) (i : Nat) : Nat → Prop
  | one {j : Nat} {o : Oper} {e : Edge} (ho : ops[j]? = some o) (he : e ∈ o.after) (hb : Region.binds .any e = true) (hi : e.on = i) : Bef ops i j
  | more {j : Nat} {o : Oper} {e : Edge} (ho : ops[j]? = some o) (he : e ∈ o.after) (hb : Region.binds .any e = true) (hi : Bef ops i e.on) : Bef ops i j
theorem Bef.closed {ops : Array Oper} {L : Nat → Prop} (hL : ∀ j o, ops[j]? = some o → L j → ∀ e ∈ o.after, Region.binds .any e = true → L e.on) {i j : Nat} (h : Bef ops i j) : L j → L i := by
  induction h with
  | one ho he hb hi => intro hj; rw [← hi]; exact hL _ _ ho hj _ he hb
  | more ho he hb _ ih => intro hj; exact ih (hL _ _ ho hj _ he hb)
theorem Bef.after {ops : Array Oper} {L : Nat → Prop} (hL : ∀ j o, ops[j]? = some o → L j → ∀ e ∈ o.after, Region.binds .any e = true → L e.on) {i j : Nat} (h : Bef ops i j) {o : Oper} (ho : ops[j]? = some o) (ha : ∀ e ∈ o.after, Region.binds .any e = true → L e.on) : L i := by
  cases h with
  | one ho' he hb hi =>
    rw [ho] at ho'
    obtain rfl := Option.some.inj ho'
    rw [← hi]; exact ha _ he hb
  | more ho' he hb hi =>
    rw [ho] at ho'
    obtain rfl := Option.some.inj ho'
    exact hi.closed hL (ha _ he hb)
theorem Bef.lt {ops : Array Oper} (hok : drawOk ops = true) {i j : Nat} (h : Bef ops i j) : i < j := by
  induction h with
  | one ho he hb hi => rw [← hi]; exact drawOk_after hok ho _ he hb
  | more ho he hb _ ih => exact Nat.lt_trans ih (drawOk_after hok ho _ he hb)

theorem before_inner (ops : Array Oper) (acc : Array Nat) (hacc : ∀ k, ∀ i, (acc.getD k 0).testBit i = true → Bef ops i k) : ∀ (l : List Edge) (m i : Nat), (l.foldl (fun s e => if Region.binds .any e then s ||| 2 ^ e.on ||| acc.getD e.on 0 else s) m).testBit i = true → m.testBit i = true ∨ ∃ e ∈ l, Region.binds .any e = true ∧ (e.on = i ∨ Bef ops i e.on)
  | [], m, i, h => .inl h
  | e :: l, m, i, h => by
    rw [List.foldl_cons] at h
    rcases before_inner ops acc hacc l _ i h with h | ⟨e', he', hb, h⟩
    · split at h
      · rename_i hb
        rw [Nat.testBit_or, Nat.testBit_or, Bool.or_eq_true, Bool.or_eq_true] at h
        rcases h with (h | h) | h
        · exact .inl h
        · refine .inr ⟨e, by simp, hb, .inl ?_⟩
          rw [Nat.testBit_two_pow] at h
          simpa using h
        · exact .inr ⟨e, by simp, hb, .inr (hacc _ _ h)⟩
      · exact .inl h
    · exact .inr ⟨e', by simp [he'], hb, h⟩
theorem before_bef (ops : Array Oper) : ∀ k, ∀ i, ((Region.before ops).getD k 0).testBit i = true → Bef ops i k := by
  have key : ∀ (l : List Oper) (acc : Array Nat) (d : Nat), acc.size = d → (∀ j, l[j]? = ops[d + j]?) → (∀ k, ∀ i, (acc.getD k 0).testBit i = true → Bef ops i k) →
      ∀ k, ∀ i, ((l.foldl (fun acc o => acc.push (o.after.foldl (fun s e => if Region.binds .any e then s ||| 2 ^ e.on ||| acc.getD e.on 0 else s) 0)) acc).getD k 0).testBit i = true → Bef ops i k := by
    intro l
    induction l with
    | nil => intro acc d _ _ h; exact h
    | cons o l ih =>
      intro acc d hd hl h
      rw [List.foldl_cons]
      refine ih _ (d + 1) (by simp [hd]) (fun j => by have := hl (j + 1); rw [List.getElem?_cons_succ] at this; rw [this]; congr 1; omega) ?_
      intro k i hk
      have ho : ops[d]? = some o := by have := hl 0; simpa using this.symm
      rw [Array.getD_eq_getD_getElem?, Array.getElem?_push] at hk
      split at hk
      · rename_i hkd
        simp only [Option.getD_some] at hk
        rw [← Array.foldl_toList] at hk
        rcases before_inner ops acc h o.after.toList 0 i hk with h0 | ⟨e, he, hb, h1⟩
        · simp at h0
        · rw [hkd, hd]
          rcases h1 with h1 | h1
          · exact .one ho (by simpa using he) hb h1
          · exact .more ho (by simpa using he) hb h1
      · exact h k i (by rw [Array.getD_eq_getD_getElem?]; exact hk)
  intro k i h
  unfold Region.before at h
  rw [← Array.foldl_toList] at h
  exact key ops.toList #[] 0 rfl (fun j => by simp) (fun k i h => by simp at h) k i h

theorem filt_le {p q : Nat → Bool} (h : ∀ x, q x = true → p x = true) : ∀ l : List Nat, (l.filter q).length ≤ (l.filter p).length
  | [] => by simp
  | x :: l => by
    have ih := filt_le h l
    simp only [List.filter_cons]
    cases hq : q x with
    | true => simp [h x hq]; exact ih
    | false => cases hp : p x <;> simp <;> omega
theorem filt_lt {p q : Nat → Bool} (h : ∀ x, q x = true → p x = true) {i : Nat} (hp : p i = true) (hq : q i = false) : ∀ l : List Nat, i ∈ l → (l.filter q).length < (l.filter p).length
  | [], hi => by simp at hi
  | x :: l, hi => by
    simp only [List.filter_cons]
    by_cases hx : x = i
    · subst hx
      have := filt_le h l
      simp [hp, hq]; omega
    · have := filt_lt h hp hq l (by rcases List.mem_cons.1 hi with rfl | hi; exact absurd rfl hx; exact hi)
      cases hqx : q x with
      | true => simp [h x hqx]; exact this
      | false => cases hpx : p x <;> simp <;> omega

theorem ready_nil {ops : Array Oper} (hok : drawOk ops = true) {listed : Array Bool} (hsz : listed.size = ops.size) (hr : Region.ready .any ops listed = []) : ∀ k, k < ops.size → listed.getD k true = true := by
  intro k
  induction k using Nat.strongRecOn with
  | _ k ih =>
    intro hk
    cases hl : listed.getD k true with
    | true => rfl
    | false =>
      exfalso
      have : k ∈ Region.ready .any ops listed := by
        rw [mem_ready]
        refine ⟨hl, ops[k], by simp [hk], fun e he hbb => ?_⟩
        have hlt := drawOk_after hok (i := k) (o := ops[k]) (by simp [hk]) e he hbb
        have := ih e.on hlt (by omega)
        have hon : e.on < listed.size := by omega
        simp [hon] at this ⊢
        exact this
      rw [hr] at this
      cases this


end
end Go.Proofs.YtanbccpabgcmaaaGreatDoor.PVE
