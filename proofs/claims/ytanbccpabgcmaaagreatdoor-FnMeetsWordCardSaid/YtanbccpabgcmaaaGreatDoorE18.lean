/- The PV engine, part 18: what an operation looks at. -/
import Derived.Test.YtanbccpabgcmaaaGreatDoorE17
set_option linter.unusedVariables false
set_option linter.unusedSimpArgs false
set_option linter.unusedSectionVars false
namespace Go.Proofs.YtanbccpabgcmaaaGreatDoor.PVE
open PV

mutual
/-- The roots that a value shows. -/
def hands : PV → List Nat
  | .own r => [r]
  | .addr r _ _ => [r]
  | .vw r _ _ => [r]
  | .agg cs => handsL cs
  | .fn _ cs => handsL cs
  | .tup cs => handsL cs
  | _ => []
def handsL : List PV → List Nat
  | [] => []
  | c :: cs => hands c ++ handsL cs
end
theorem handsL_mem {c : PV} : ∀ {cs : List PV}, c ∈ cs → ∀ r ∈ hands c, r ∈ handsL cs
  | x :: cs, h, r, hr => by
    rcases List.mem_cons.1 h with rfl | h
    · simp [handsL, hr]
    · simp [handsL, handsL_mem h r hr]
theorem handsL_map {α : Type} (f : α → PV) (l : List α) : handsL (l.map f) = l.flatMap fun x => hands (f x) := by
  induction l with
  | nil => rfl
  | cons x l ih => simp [handsL, ih]
def reach (s : Nat → Option Root) (r : Nat) : List Nat := match foldR s 4 r with
  | some (_, l) => l
  | none => [r]
def touch (s : Nat → Option Root) (xs : List PV) : List Nat := (handsL xs).flatMap (reach s)

theorem reach_self (s : Nat → Option Root) (r : Nat) : r ∈ reach s r := by
  unfold reach
  cases h : foldR s 4 r with
  | none => simp
  | some x => obtain ⟨pv, l⟩ := x; exact foldR_mem h

section
variable {E : Env} {s s' : Nat → Option Root}

theorem foldR_sub (m : Nat) : ∀ (links : List (Nat × Nat)) (acc y : PV × List Nat), links.foldlM (fun acc l => match acc.1.cellAt l.1 l.2 with
      | some (.own c) => (foldR s m c).map fun x => (acc.1.put l.1 l.2 [x.1], acc.2 ++ x.2)
      | _ => some acc) acc = some y → ∀ r ∈ acc.2, r ∈ y.2
  | [], acc, y, h, r, hr => by
    simp only [List.foldlM_nil, Option.pure_def, Option.some.injEq] at h
    subst h; exact hr
  | x :: links, acc, y, h, r, hr => by
    rw [List.foldlM_cons] at h
    simp only [Option.bind_eq_bind, Option.bind_eq_some_iff] at h
    obtain ⟨z, hz, h⟩ := h
    refine foldR_sub m links z y h r ?_
    split at hz
    · rename_i c hc
      cases hf : foldR s m c with
      | none => simp [hf] at hz
      | some q => simp only [hf, Option.map_some, Option.some.injEq] at hz; subst hz; simp [hr]
    · simp only [Option.some.injEq] at hz; subst hz; exact hr
theorem foldR_local : ∀ (m r : Nat) (pv : PV) (l : List Nat), foldR s m r = some (pv, l) → (∀ x ∈ l, s x = s' x) → foldR s' m r = some (pv, l)
  | 0, r, pv, l, he, _ => by simp [foldR] at he
  | m + 1, r, pv, l, he, hs => by
    have hrl := foldR_mem he
    simp only [foldR] at he ⊢
    rw [← hs r hrl]
    cases hr : s r with
    | none => simp [hr] at he
    | some rt =>
      simp only [hr] at he ⊢
      have main : ∀ (ls : List (Nat × Nat)) (acc : PV × List Nat), ls.foldlM (fun acc l => match acc.1.cellAt l.1 l.2 with
            | some (.own c) => (foldR s m c).map fun x => (acc.1.put l.1 l.2 [x.1], acc.2 ++ x.2)
            | _ => some acc) acc = some (pv, l) → ls.foldlM (fun acc l => match acc.1.cellAt l.1 l.2 with
            | some (.own c) => (foldR s' m c).map fun x => (acc.1.put l.1 l.2 [x.1], acc.2 ++ x.2)
            | _ => some acc) acc = some (pv, l) := by
        intro ls
        induction ls with
        | nil => intro acc h; exact h
        | cons x ls ih =>
          intro acc h
          rw [List.foldlM_cons] at h ⊢
          simp only [Option.bind_eq_bind, Option.bind_eq_some_iff] at h ⊢
          obtain ⟨z, hz, h⟩ := h
          refine ⟨z, ?_, ih z h⟩
          split at hz
          · rename_i c hc
            cases hf : foldR s m c with
            | none => simp [hf] at hz
            | some q =>
              obtain ⟨qp, ql⟩ := q
              simp only [hf, Option.map_some, Option.some.injEq] at hz
              have hsub := foldR_sub m ls z (pv, l) h
              rw [foldR_local m c qp ql hf (fun y hy => hs y (hsub y (by rw [← hz]; simp [hy])))]
              simpa using hz
          · exact hz
      exact main rt.links (rt.pv, [r]) he
theorem reach_local {r : Nat} (h : ∀ x ∈ reach s r, s x = s' x) {pv : PV} {l : List Nat} (he : foldR s 4 r = some (pv, l)) : foldR s' 4 r = some (pv, l) := by
  refine foldR_local 4 r pv l he ?_
  unfold reach at h
  rw [he] at h
  exact h

theorem inl_local : ∀ (cs cs' : List PV) (l : List Nat), inl s cs = some (cs', l) → (∀ r ∈ touch s cs, s r = s' r) → inl s' cs = some (cs', l)
  | [], cs', l, he, _ => by simpa [inl] using he
  | c :: cs, cs', l, he, ht => by
    have ht1 : ∀ r ∈ touch s cs, s r = s' r := fun r hr => ht r (by unfold touch at hr ⊢; simp only [handsL, List.flatMap_append, List.mem_append]; exact .inr hr)
    cases c with
    | own r =>
      simp only [inl] at he ⊢
      split at he
      · rename_i sz es lr cs'' l' hf hi
        rw [reach_local (s := s) (s' := s') (fun x hx => ht x (by unfold touch; simp only [handsL, hands, List.flatMap_append, List.mem_append, List.flatMap_cons]; exact .inl (.inl hx))) hf, inl_local cs _ _ hi ht1]
        exact he
      · cases he
    | nilS =>
      simp only [inl] at he ⊢
      cases hi : inl s cs with
      | none => simp [hi] at he
      | some y => rw [inl_local cs y.1 y.2 hi ht1]; rw [hi] at he; exact he
    | _ =>
      simp only [inl] at he ⊢
      split at he
      · rename_i hst
        cases hi : inl s cs with
        | none => simp [hi] at he
        | some y => rw [if_pos hst, inl_local cs y.1 y.2 hi ht1]; rw [hi] at he; exact he
      · cases he
theorem touch_one {c : PV} {s : Nat → Option Root} : touch s [c] = (hands c).flatMap (reach s) := by simp [touch, handsL]
theorem inlE_local {e e' : PV} {l : List Nat} (he : inlE s e = some (e', l)) (ht : ∀ r ∈ touch s [e], s r = s' r) : inlE s' e = some (e', l) := by
  cases e with
  | agg cs =>
    simp only [inlE] at he ⊢
    cases hi : inl s cs with
    | none => simp [hi] at he
    | some y => rw [inl_local cs y.1 y.2 hi (by rw [touch_one] at ht; exact ht)]; rw [hi] at he; exact he
  | _ =>
    simp only [inlE] at he ⊢
    split at he
    · rename_i c' l' hi
      rw [inl_local _ _ _ hi ht]
      exact he
    · cases he
theorem inlEs_local : ∀ (es es' : List PV) (l : List Nat), inlEs s es = some (es', l) → (∀ r ∈ touch s es, s r = s' r) → inlEs s' es = some (es', l)
  | [], es', l, he, _ => by simpa [inlEs] using he
  | e :: es, es', l, he, ht => by
    simp only [inlEs] at he ⊢
    split at he
    · rename_i e1 l1 es1 l2 h1 h2
      rw [inlE_local h1 (fun r hr => ht r (by rw [touch_one] at hr; unfold touch; simp only [handsL, List.flatMap_append, List.mem_append]; exact .inl hr)), inlEs_local es _ _ h2 (fun r hr => ht r (by unfold touch at hr ⊢; simp only [handsL, List.flatMap_append, List.mem_append]; exact .inr hr))]
      exact he
    · cases he
theorem sliceEs_local {t t' : Nat → PV} {n n' : Nat} {x : PV} {y : List PV × List Nat} (he : sliceEs ⟨t, s, n⟩ x = some y) (ht : ∀ r ∈ touch s [x], s r = s' r) : sliceEs ⟨t', s', n'⟩ x = some y := by
  cases x <;> simp only [sliceEs] at he ⊢ <;> try exact he
  rename_i r
  split at he
  · rename_i hf
    rw [reach_local (s := s) (s' := s') (fun x hx => ht x (by rw [touch_one]; simp only [hands, List.flatMap_cons, List.mem_append]; exact .inl hx)) hf]
    exact he
  · cases he
theorem frz_local : ∀ {xs : List PV} {y : List PV × List Nat × List (Nat × Root)}, frzCaps s xs = some y → (∀ r ∈ touch s xs, s r = s' r) → frzCaps s' xs = some y
  | [], y, he, _ => by simpa [frzCaps] using he
  | x :: xs, y, he, ht => by
    have ht1 : ∀ r ∈ touch s xs, s r = s' r := fun r hr => ht r (by unfold touch at hr ⊢; simp only [handsL, List.flatMap_append, List.mem_append]; exact .inr hr)
    have keep : (frzCaps s xs).map (fun z => (x :: z.1, z.2)) = some y → (frzCaps s' xs).map (fun z => (x :: z.1, z.2)) = some y := by
      intro he
      cases hc : frzCaps s xs with
      | none => rw [hc] at he; cases he
      | some z => rw [frz_local hc ht1]; rw [hc] at he; exact he
    cases x with
    | addr r i off =>
      cases i with
      | succ i => exact keep he
      | zero =>
        cases off with
        | succ off => exact keep he
        | zero =>
          simp only [frzCaps] at he ⊢
          have hr : ∀ {pv : PV} {l : List Nat}, foldR s 4 r = some (pv, l) → foldR s' 4 r = some (pv, l) := fun hf => reach_local (s := s) (s' := s') (fun x hx => ht x (by unfold touch; simp only [handsL, hands, List.flatMap_append, List.mem_append, List.flatMap_cons]; exact .inl (.inl hx))) hf
          split at he
          · rename_i hf hc
            rw [hr hf, frz_local hc ht1]
            exact he
          · rename_i hf hc
            rw [hr hf, frz_local hc ht1]
            exact he
          · cases he
    | _ => exact keep he
theorem store_local {x : PV} {r : Nat} (hx : r ∈ hands x) (ht : ∀ q ∈ touch s [x], s q = s' q) : s r = s' r :=
  ht r (by rw [touch_one]; exact List.mem_flatMap.2 ⟨r, hx, reach_self s r⟩)
end

theorem handsL_sub : ∀ {xs ys : List PV}, (∀ x ∈ xs, x ∈ ys) → ∀ r ∈ handsL xs, r ∈ handsL ys
  | [], _, _, r, hr => by simp [handsL] at hr
  | x :: xs, ys, h, r, hr => by
    simp only [handsL, List.mem_append] at hr
    rcases hr with hr | hr
    · exact handsL_mem (h x (by simp)) r hr
    · exact handsL_sub (fun y hy => h y (by simp [hy])) r hr
theorem touch_sub {s : Nat → Option Root} {xs ys : List PV} (h : ∀ x ∈ xs, x ∈ ys) : ∀ r ∈ touch s xs, r ∈ touch s ys := by
  intro r hr
  obtain ⟨q, hq, hr⟩ := List.mem_flatMap.1 hr
  exact List.mem_flatMap.2 ⟨q, handsL_sub h q hq, hr⟩

end Go.Proofs.YtanbccpabgcmaaaGreatDoor.PVE
