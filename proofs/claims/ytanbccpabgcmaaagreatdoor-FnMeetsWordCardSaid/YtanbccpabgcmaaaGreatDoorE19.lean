/- The PV engine, part 19: an operation's effect depends on its operands' values and on the roots that they show. -/
import Derived.Test.YtanbccpabgcmaaaGreatDoorE18
set_option linter.unusedVariables false
set_option linter.unusedSimpArgs false
set_option linter.unusedSectionVars false
namespace Go.Proofs.YtanbccpabgcmaaaGreatDoor.PVE
open PV

section
variable {P : Program} {E : Env} {st : St}
/-- Only the operands' values count. -/
theorem eff_temps {st' : St} {o : Op} (hs : st.store = st'.store) (hn : st.next = st'.next) (h : ∀ x ∈ o.operands, ev E st x = ev E st' x) : eff E st o = eff E st' o := by
  obtain ⟨t, s, nx⟩ := st
  obtain ⟨t', s', nx'⟩ := st'
  simp only at hs hn
  subst hs hn
  have hmap : ∀ l : List (Nat × Operand), (∀ x ∈ l, ev E ⟨t, s, nx⟩ x.2 = ev E ⟨t', s, nx⟩ x.2) → l.map (fun x => ev E ⟨t, s, nx⟩ x.2) = l.map (fun x => ev E ⟨t', s, nx⟩ x.2) := fun l hl => List.map_congr_left hl
  have hmap2 : ∀ l : List (Nat × Operand), (∀ x ∈ l, ev E ⟨t, s, nx⟩ x.2 = ev E ⟨t', s, nx⟩ x.2) → l.map (fun x => (x.1, ev E ⟨t, s, nx⟩ x.2)) = l.map (fun x => (x.1, ev E ⟨t', s, nx⟩ x.2)) := fun l hl => List.map_congr_left fun x hx => by rw [hl x hx]
  cases o with
  | build ty ps =>
    simp only [eff]
    rw [hmap2 ps.toList fun x hx => h x.2 (by simp only [Op.operands, List.mem_toArray]; exact List.mem_map_of_mem hx)]
    rfl
  | buildSlice ty len ps =>
    simp only [eff]
    rw [hmap ps.toList fun x hx => h x.2 (by simp only [Op.operands, List.mem_toArray]; exact List.mem_map_of_mem hx)]
    rfl
  | makeFunc fn first caps =>
    simp only [eff]
    have : caps.toList.map (ev E ⟨t, s, nx⟩) = caps.toList.map (ev E ⟨t', s, nx⟩) := List.map_congr_left fun x hx => h x (by simp only [Op.operands, Array.mem_append]; exact .inr (by simpa using hx))
    rw [this]
  | slice ty x lo hi mx =>
    cases mx with
    | some m => simp [eff]
    | none =>
      simp only [eff]
      rw [h x (by simp [Op.operands])]
      have h1 : lo.map (ev E ⟨t, s, nx⟩) = lo.map (ev E ⟨t', s, nx⟩) := by
        cases lo with
        | none => rfl
        | some y => simp only [Option.map_some]; rw [h y (by simp [Op.operands])]
      have h2 : hi.map (ev E ⟨t, s, nx⟩) = hi.map (ev E ⟨t', s, nx⟩) := by
        cases hi with
        | none => rfl
        | some y => simp only [Option.map_some]; rw [h y (by simp [Op.operands])]
      rw [h1, h2]
      rfl
  | call c =>
    obtain ⟨callee, args, tys⟩ := c
    simp only [eff]
    cases callee with
    | builtin b =>
      have hx : ∀ x ∈ args.toList, ev E ⟨t, s, nx⟩ x = ev E ⟨t', s, nx⟩ x := fun x hx => h x (by simp only [Op.operands, Call.operands, Array.mem_append]; exact .inr (by simpa using hx))
      generalize args.toList = l at hx ⊢
      rcases l with _ | ⟨x, _ | ⟨y, _ | ⟨z, l⟩⟩⟩
      · cases b <;> rfl
      · have e1 := hx x (by simp)
        cases b <;> (try rfl) <;> (simp only []; rw [e1]; rfl)
      · have e1 := hx x (by simp)
        have e2 := hx y (by simp)
        cases b <;> (try rfl) <;> (simp only []; rw [e1, e2]; rfl)
      · cases b <;> rfl
    | _ => rfl
  | pick c x y => simp only [eff]; rw [h c (by simp [Op.operands]), h x (by simp [Op.operands]), h y (by simp [Op.operands])]; rfl
  | store _ x y => simp only [eff]; rw [h x (by simp [Op.operands]), h y (by simp [Op.operands])]; rfl
  | binOp _ _ x y _ => simp only [eff]; rw [h x (by simp [Op.operands]), h y (by simp [Op.operands])]
  | makeSlice _ x y => simp only [eff]; rw [h x (by simp [Op.operands]), h y (by simp [Op.operands])]
  | indexAddr _ x y => simp only [eff]; rw [h x (by simp [Op.operands]), h y (by simp [Op.operands])]
  | index _ x y => simp only [eff]; rw [h x (by simp [Op.operands]), h y (by simp [Op.operands])]
  | move x => simp only [eff]; rw [h x (by simp [Op.operands])]; rfl
  | assign x => simp only [eff]; rw [h x (by simp [Op.operands])]; rfl
  | box _ x => simp only [eff]; rw [h x (by simp [Op.operands])]; rfl
  | load _ x => simp only [eff]; rw [h x (by simp [Op.operands])]; rfl
  | nilCheck x => simp only [eff]; rw [h x (by simp [Op.operands])]; rfl
  | unOp _ _ x => simp only [eff]; rw [h x (by simp [Op.operands])]; rfl
  | convert _ _ x => simp only [eff]; rw [h x (by simp [Op.operands])]; rfl
  | fieldAddr _ x _ => simp only [eff]; rw [h x (by simp [Op.operands])]; rfl
  | field _ x _ => simp only [eff]; rw [h x (by simp [Op.operands])]; rfl
  | extract x _ => simp only [eff]; rw [h x (by simp [Op.operands])]; rfl
  | alloc _ => rfl
  | _ => rfl


def valsOf (E : Env) (st : St) (o : Op) : List PV := o.operands.toList.map (ev E st)
theorem val_mem {o : Op} {x : Operand} (h : x ∈ o.operands) : ev E st x ∈ valsOf E st o := List.mem_map_of_mem (by simpa using h)
theorem ev_store {t : Nat → PV} {s s' : Nat → Option Root} {n n' : Nat} (x : Operand) : ev E ⟨t, s, n⟩ x = ev E ⟨t, s', n'⟩ x := by cases x <;> rfl
theorem ev_fun {t : Nat → PV} {s s' : Nat → Option Root} {n n' : Nat} : ev E ⟨t, s, n⟩ = ev E ⟨t, s', n'⟩ := funext fun x => ev_store x

theorem eff_store {t : Nat → PV} {s s' : Nat → Option Root} {nx : Nat} {o : Op} {pe : Prop × Eff} (ht : ∀ r ∈ touch s (valsOf E ⟨t, s, nx⟩ o), s r = s' r) (he : eff E ⟨t, s, nx⟩ o = some pe) : eff E ⟨t, s', nx⟩ o = some pe := by
  have tch : ∀ {x : Operand}, x ∈ o.operands → ∀ r ∈ touch s [ev E ⟨t, s, nx⟩ x], s r = s' r := fun hx r hr => ht r (touch_sub (by simpa using val_mem hx) r hr)
  have tchc : ∀ {x : Operand}, x ∈ o.operands → ∀ r ∈ touch s (ev E ⟨t, s, nx⟩ x).cells, s r = s' r := by
    intro x hx r hr
    refine tch hx r ?_
    rw [touch_one]
    cases hv : ev E ⟨t, s, nx⟩ x <;> rw [hv] at hr <;> simp [PV.cells, touch, handsL, hands] at hr ⊢ <;> exact hr
  have dir : ∀ {x : Operand} {r : Nat}, x ∈ o.operands → r ∈ hands (ev E ⟨t, s, nx⟩ x) → s r = s' r := fun hx hr => store_local hr (tch hx)
  have hev : ev E ⟨t, s', nx⟩ = ev E ⟨t, s, nx⟩ := ev_fun
  cases o with
  | box ty x =>
    simp only [eff] at he ⊢
    rw [hev]
    split at he
    · rename_i hb
      rw [if_pos hb]
      split at he
      · rename_i cs rem hi
        rw [inl_local _ _ _ hi (tchc (by simp [Op.operands]))]
        exact he
      · cases he
    · rename_i hb
      rw [if_neg hb]
      exact he
  | buildSlice ty len parts =>
    simp only [eff] at he ⊢
    rw [hev]
    split at he
    case h_2 => cases he
    rename_i e sz by_ ze hT
    try simp only [hT]
    split at he
    case h_2 => cases he
    rename_i i hTe
    try simp only [hTe]
    split at he
    case h_2 => cases he
    rename_i es rem hi
    rw [inlEs_local (s := s) (s' := s') _ _ _ hi (fun r hr => ht r (touch_sub (fun y hy => by
      obtain ⟨x, hx, rfl⟩ := List.mem_map.1 hy
      exact val_mem (by simp only [Op.operands, List.mem_toArray]; exact List.mem_map_of_mem hx)) r hr))]
    exact he
  | load ty x =>
    simp only [eff] at he ⊢
    rw [hev]
    split at he
    case h_2 => cases he
    rename_i i hT
    try simp only [hT]
    have hd := fun r => dir (x := x) (r := r) (by simp [Op.operands])
    cases hx : ev E ⟨t, s, nx⟩ x <;> rw [hx] at he hd <;> simp only [loadE] at he ⊢ <;> try exact he
    rename_i r k off
    rw [← hd r (by simp [hands])]
    exact he
  | store ty x y =>
    simp only [eff] at he ⊢
    rw [hev]
    split at he
    case h_2 => cases he
    rename_i i hT
    try simp only [hT]
    have hd := fun r => dir (x := x) (r := r) (by simp [Op.operands])
    cases hx : ev E ⟨t, s, nx⟩ x <;> rw [hx] at he hd <;> simp only [storeE] at he ⊢ <;> try exact he
    rename_i r k off
    rw [← hd r (by simp [hands])]
    split at he
    case h_2 => cases he
    rename_i rt cs rem hr hi
    have ht2 : ∀ r ∈ touch s (nilC i (ev E ⟨t, s, nx⟩ y).cells), s r = s' r := by
      rcases nilC_or i (ev E ⟨t, s, nx⟩ y).cells with hn | ⟨k, _, hn⟩
      · rw [hn]; exact tchc (x := y) (by simp [Op.operands])
      · rw [hn]; intro r hr; simp [touch, handsL, hands] at hr
    rw [inl_local _ _ _ hi ht2, hr]
    exact he
  | convert src dst x =>
    simp only [eff] at he ⊢
    rw [hev]
    have hd := fun r => dir (x := x) (r := r) (by simp [Op.operands])
    generalize hx : ev E ⟨t, s, nx⟩ x = v at he hd ⊢
    simp only [convE] at he ⊢
    split at he
    case h_2 => cases he
    rename_i ts td hT1 hT2
    try simp only [hT1, hT2]
    obtain ⟨d1, z1, b1, e1⟩ := ts
    obtain ⟨d2, z2, b2, e2⟩ := td
    cases v with
    | own r =>
      have hr := hd r (by simp [hands])
      cases d1 <;> cases d2 <;> first | (simp at he; done) | (simp only at he ⊢; rw [← hr]; exact he)
    | _ => cases d1 <;> cases d2 <;> first | exact he | (simp at he; done)
  | slice ty x lo hi mx =>
    cases mx with
    | some m => simp [eff] at he
    | none =>
      simp only [eff] at he ⊢
      rw [hev]
      have hd := fun r => dir (x := x) (r := r) (by simp [Op.operands])
      have hrc := tch (x := x) (by simp [Op.operands])
      generalize hx : ev E ⟨t, s, nx⟩ x = v at he hd hrc ⊢
      split at he
      · exact he
      · rename_i el sz by_ ze hT
        split at he
        case h_2 => cases he
        rename_i i hTe
        try simp only [hTe]
        cases v <;> simp only [sliceE] at he ⊢ <;> try exact he
        · rename_i r
          rw [← hd r (by simp [hands])]
          exact he
        · rename_i r _ _
          rw [← hd r (by simp [hands])]
          exact he
      · cases he
  | indexAddr ty x ix =>
    simp only [eff] at he ⊢
    rw [hev]
    have hd := fun r => dir (x := x) (r := r) (by simp [Op.operands])
    generalize hx : ev E ⟨t, s, nx⟩ x = v at he hd ⊢
    split at he
    case h_2 => cases he
    rename_i el sz by_ ze hT
    split at he
    case h_2 => cases he
    rename_i ti n0 _ hTe hix
    try simp only [hTe, hix]
    cases v <;> try exact he
    · rename_i r
      simp only at he ⊢
      rw [← hd r (by simp [hands])]
      exact he
    · rename_i r _ _
      simp only at he ⊢
      rw [← hd r (by simp [hands])]
      exact he
  | call c =>
    obtain ⟨callee, args, tys⟩ := c
    simp only [eff] at he ⊢
    rw [hev]
    cases callee with
    | builtin b =>
      have hmem : ∀ x ∈ args.toList, x ∈ (Op.call ⟨.builtin b, args, tys⟩).operands := fun x hx => by simp only [Op.operands, Call.operands, Array.mem_append]; exact .inr (by simpa using hx)
      generalize args.toList = l at he hmem ⊢
      rcases l with _ | ⟨x, _ | ⟨y, _ | ⟨z, l⟩⟩⟩
      · cases b <;> first | exact he | (simp at he; done)
      · have hd := fun r => dir (x := x) (r := r) (hmem x (by simp))
        cases b <;> try first | exact he | (simp at he; done)
        simp only at he ⊢
        split at he
        · exact he
        · rename_i hT
          try rw [hT]
          generalize hx : ev E ⟨t, s, nx⟩ x = v at he hd ⊢
          cases v <;> simp only [lenE] at he ⊢ <;> try exact he
          rename_i r
          rw [← hd r (by simp [hands])]
          exact he
        · cases he
      · have hd := fun r => dir (x := x) (r := r) (hmem x (by simp))
        have hrc := tch (x := y) (hmem y (by simp))
        cases b <;> try first | exact he | (simp at he; done)
        simp only at he ⊢
        split at he
        case h_2 => cases he
        split at he
        case isFalse => cases he
        rename_i htt
        rw [if_pos htt]
        split at he
        case h_2 => cases he
        rename_i hT
        try rw [hT]
        try simp only
        split at he
        case h_2 => cases he
        rename_i hTe
        try rw [hTe]
        try simp only
        unfold appendE at he ⊢
        generalize hx : ev E ⟨t, s, nx⟩ x = v at he hd ⊢
        generalize hy : ev E ⟨t, s, nx⟩ y = u at he hrc ⊢
        have wl : ∀ {ti : TyI} {new : List PV} {l : List Nat} {q : Option (Prop × Eff)}, appendW ⟨t, s, nx⟩ ti v new l = q → q.isSome → appendW ⟨t, s', nx⟩ ti v new l = q := by
          intro ti new l q hq _
          unfold appendW at hq ⊢
          cases v <;> simp only at hq ⊢ <;> try exact hq
          rename_i r
          rw [← hd r (by simp [hands])]
          exact hq
        split at he
        · rename_i r x0 y0
          simp only
          have hs := hrc r (by rw [touch_one]; exact List.mem_flatMap.2 ⟨r, by simp [hands], reach_self s r⟩)
          have hvw : viewEs s' r x0 y0 = viewEs s r x0 y0 := by unfold viewEs; rw [hs]
          rw [hvw]
          split at he
          case h_2 => cases he
          rename_i new hnew
          rw [hnew]
          simp only
          unfold andE at he ⊢
          split at he
          case h_2 => cases he
          rename_i p' e' hw'
          rw [wl hw' rfl]
          exact he
        · rename_i hnv
          split at he
          case h_2 => cases he
          rename_i new l hsl
          have := sliceEs_local (t' := t) (n' := nx) hsl hrc
          rw [this]
          exact wl he rfl
      · cases b <;> first | exact he | (simp at he; done)
    | _ => exact he
  | build ty ps => simp only [eff] at he ⊢; rw [hev]; exact he
  | makeFunc fn first caps =>
    simp only [eff] at he ⊢
    rw [hev]
    split at he
    case h_2 => cases he
    split at he
    case h_2 => cases he
    rename_i hfz
    rw [frz_local (s := s) (s' := s') hfz (fun r hr => ht r (touch_sub (fun x hx => by
      obtain ⟨y, hy, rfl⟩ := List.mem_map.1 hx
      exact val_mem (by simp only [Op.operands, Array.mem_append]; exact .inr (by simpa using hy))) r hr))]
    exact he
  | pick c x y => simp only [eff] at he ⊢; rw [hev]; exact he
  | binOp _ _ x y _ => simp only [eff] at he ⊢; rw [hev]; exact he
  | makeSlice _ x y => simp only [eff] at he ⊢; rw [hev]; exact he
  | index _ x y => simp only [eff] at he ⊢; rw [hev]; exact he
  | move x => simp only [eff] at he ⊢; rw [hev]; exact he
  | assign x => simp only [eff] at he ⊢; rw [hev]; exact he
  | nilCheck x => simp only [eff] at he ⊢; rw [hev]; exact he
  | unOp _ _ x => simp only [eff] at he ⊢; rw [hev]; exact he
  | fieldAddr _ x _ => simp only [eff] at he ⊢; rw [hev]; exact he
  | field _ x _ => simp only [eff] at he ⊢; rw [hev]; exact he
  | extract x _ => simp only [eff] at he ⊢; rw [hev]; exact he
  | alloc _ => exact he
  | _ => simp [eff] at he

theorem plain_nx {v : PV} {p : Prop} {e : Eff} (h : plainE st v = some (p, e)) : st.next ≤ e.nx := by
  simp only [plainE, Option.some.injEq, Prod.mk.injEq] at h
  obtain ⟨_, rfl⟩ := h
  exact Nat.le_refl _
theorem newRoot_nx {pv v : PV} {rem : List Nat} {p : Prop} {e : Eff} (h : newRoot st pv v rem = some (p, e)) : st.next ≤ e.nx := by
  unfold newRoot at h
  split at h
  · simp only [Option.some.injEq, Prod.mk.injEq] at h
    obtain ⟨_, rfl⟩ := h
    exact Nat.le_succ _
  · cases h
theorem andE_some {q : Prop} {x : Option (Prop × Eff)} {p : Prop} {e : Eff} (h : andE q x = some (p, e)) : ∃ p', x = some (p', e) := by
  unfold andE at h
  split at h
  · simp only [Option.some.injEq, Prod.mk.injEq] at h
    obtain ⟨_, rfl⟩ := h
    exact ⟨_, rfl⟩
  · cases h
theorem appendW_nx {ti : TyI} {v : PV} {new : List PV} {l : List Nat} {p : Prop} {e : Eff} (h : appendW st ti v new l = some (p, e)) : st.next ≤ e.nx := by
  unfold appendW at h
  split at h
  · split at h
    · simp only [Option.some.injEq, Prod.mk.injEq] at h
      obtain ⟨_, rfl⟩ := h
      exact Nat.le_succ _
    · cases h
  · split at h
    · split at h
      · simp only [Option.some.injEq, Prod.mk.injEq] at h
        obtain ⟨_, rfl⟩ := h
        exact Nat.le_succ _
      · cases h
    · cases h
  · cases h
/-- Fresh numbers only go up. -/
theorem eff_nx {o : Op} {p : Prop} {e : Eff} (he : eff E st o = some (p, e)) : st.next ≤ e.nx := by
  have fin : ∀ {q : Prop} {e' : Eff}, some (q, e') = some (p, e) → st.next ≤ e'.nx → st.next ≤ e.nx := by
    intro q e' h hl
    simp only [Option.some.injEq, Prod.mk.injEq] at h
    obtain ⟨_, rfl⟩ := h
    exact hl
  unfold eff at he
  repeat' (first
    | exact plain_nx he
    | exact newRoot_nx he
    | (cases he; done)
    | exact fin he (Nat.le_refl _)
    | exact fin he (Nat.le_succ _)
    | exact fin he (Nat.le_add_right _ _)
    | (unfold loadE at he)
    | (unfold loadPro at he)
    | (unfold storeE at he)
    | (unfold sliceE at he)
    | (unfold sliceStrE at he)
    | (unfold convE at he)
    | (unfold appendE at he)
    | exact appendW_nx he
    | (obtain ⟨p', he'⟩ := andE_some he; exact appendW_nx he')
    | (unfold lenE at he)
    | (unfold lenStrE at he)
    | split at he
    | (dsimp only at he))
end
end Go.Proofs.YtanbccpabgcmaaaGreatDoor.PVE
