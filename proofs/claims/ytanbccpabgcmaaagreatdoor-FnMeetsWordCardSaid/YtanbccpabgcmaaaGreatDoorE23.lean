/- The PV engine, part 23: a region's operations, in the text's order and in any order. -/
import Derived.Test.YtanbccpabgcmaaaGreatDoorE22
set_option linter.unusedVariables false
set_option linter.unusedSimpArgs false
set_option linter.unusedSectionVars false
namespace Go.Proofs.YtanbccpabgcmaaaGreatDoor.PVE
open PV

section
variable {P : Program} {E : Env} {w0 : World} {R0 : Nat → Prop} {F0 : List Nat} {gh : Nat → Value} {n : Nat} {Fr : Nat → Prop} {st : St} {a : Act} {w : World} {call : Nat → List PV → Option Ans}

/-- The run in the text's order: Sf i is the state ahead of operation i. -/
structure Text (call : Nat → List PV → Option Ans) (E : Env) (n : Nat) (ops : Array Oper) (Sf : Nat → St) (T W : Nat → List Nat) : Prop where
  step : ∀ i o, ops[i]? = some o → StepD call E n ops o (Sf i) (Sf (i + 1)) (T i) (W i)
  apart : ∀ i j, i < ops.size → j < ops.size → i ≠ j → (∀ r ∈ W i, r ∉ T j ++ W j) ∨ Bef ops i j ∨ Bef ops j i

section text
variable {ops : Array Oper} {Sf : Nat → St} {T W : Nat → List Nat} (hx : Text call E n ops Sf T W) (hok : drawOk ops = true)
include hx
theorem Text.next_le : ∀ {i j : Nat}, i ≤ j → j ≤ ops.size → (Sf i).next ≤ (Sf j).next := by
  intro i j hij
  induction hij with
  | refl => intro _; exact Nat.le_refl _
  | @step j hij ih =>
    intro hj
    exact Nat.le_trans (ih (by omega)) (hx.step j ops[j] (by simp)).next
theorem Text.store_same {r : Nat} : ∀ {i j : Nat}, i ≤ j → j ≤ ops.size → (∀ k, i ≤ k → k < j → r ∉ W k) → (Sf j).store r = (Sf i).store r := by
  intro i j hij
  induction hij with
  | refl => intro _ _; rfl
  | @step j hij ih =>
    intro hj hw
    rw [(hx.step j ops[j] (by simp)).store (hw j hij (Nat.lt_succ_self _))]
    exact ih (by omega) fun k h1 h2 => hw k h1 (by omega)
theorem Text.temps_same {t : Nat} : ∀ {i j : Nat}, i ≤ j → j ≤ ops.size → (∀ k, i ≤ k → k < j → dstAt ops k ≠ some t) → (Sf j).temps t = (Sf i).temps t := by
  intro i j hij
  induction hij with
  | refl => intro _ _; rfl
  | @step j hij ih =>
    intro hj hw
    rw [(hx.step j ops[j] (by simp)).temps (by rw [← dstAt_get (ops := ops) (i := j) (by simp)]; exact hw j hij (Nat.lt_succ_self _))]
    exact ih (by omega) fun k h1 h2 => hw k h1 (by omega)
end text

/-- The last of the listed that satisfies p. -/
theorem last_of (p : Nat → Prop) : ∀ m, (∃ k, k < m ∧ p k ∧ ∀ k', k' < m → p k' → k' ≤ k) ∨ ∀ k, k < m → ¬ p k
  | 0 => .inr fun k h => by omega
  | m + 1 => by
    by_cases hm : p m
    · exact .inl ⟨m, Nat.lt_succ_self _, hm, fun k' h _ => by omega⟩
    · rcases last_of p m with ⟨k, h1, h2, h3⟩ | h
      · exact .inl ⟨k, by omega, h2, fun k' h4 h5 => h3 k' (by
          rcases Nat.lt_succ_iff_lt_or_eq.1 h4 with h | h
          · exact h
          · subst h; exact absurd h5 hm) h5⟩
      · exact .inr fun k hk => by
          rcases Nat.lt_succ_iff_lt_or_eq.1 hk with h' | h'
          · exact h k h'
          · subst h'; exact hm

/-- s: the state behind the operations of L. -/
structure At (ops : Array Oper) (Sf : Nat → St) (W : Nat → List Nat) (L : Nat → Prop) (s : St) : Prop where
  tm : ∀ k d, L k → k < ops.size → dstAt ops k = some d → s.temps d = (Sf (k + 1)).temps d
  tn : ∀ t, (∀ k, L k → k < ops.size → dstAt ops k ≠ some t) → s.temps t = (Sf 0).temps t
  st : ∀ r, (∃ k, k < ops.size ∧ L k ∧ r ∈ W k ∧ (∀ k', k' < ops.size → L k' → r ∈ W k' → k' ≤ k) ∧ s.store r = (Sf (k + 1)).store r) ∨ ((∀ k, k < ops.size → L k → r ∉ W k) ∧ s.store r = (Sf 0).store r)

def FrL (ops : Array Oper) (Sf : Nat → St) (L : Nat → Prop) : Nat → Prop := fun r => (Sf 0).next ≤ r ∧ ∀ k, L k → k < ops.size → ¬ ((Sf k).next ≤ r ∧ r < (Sf (k + 1)).next)

theorem any_sound (hT : TyOk P E.T) (hS : SOk P E.S) (hcall : CallOk P E call) {ops : Array Oper} (hok : drawOk ops = true) {Sf : Nat → St} {T W : Nat → List Nat} (hx : Text call E n ops Sf T W) {Qx : Exit → Act → World → Prop}
    (hQ : ∀ a w, RelX E w0 R0 F0 gh n (Sf ops.size) a w → Qx .normal a w) :
    ∀ (fuel : Nat) (listed : Array Bool) (st : St) (a : Act) (w : World), listed.size = ops.size → ((List.range ops.size).filter fun k => !listed.getD k true).length ≤ fuel →
      (∀ j o, ops[j]? = some o → listed.getD j true = true → ∀ e ∈ o.after, Region.binds .any e = true → listed.getD e.on true = true) →
      At ops Sf W (fun k => listed.getD k true = true) st → RelF E w0 R0 F0 gh n (FrL ops Sf fun k => listed.getD k true = true) st a w →
      wpAny P .any ops Qx fuel listed a w := by
  have fin : ∀ (listed : Array Bool) (st : St) (a : Act) (w : World), (∀ k, k < ops.size → listed.getD k true = true) → At ops Sf W (fun k => listed.getD k true = true) st → RelF E w0 R0 F0 gh n (FrL ops Sf fun k => listed.getD k true = true) st a w → Qx .normal a w := by
    intro listed st a w hall hat hrel
    refine hQ a w (hrel.of (fun r hr => ⟨Nat.le_trans (hx.next_le (Nat.zero_le _) (Nat.le_refl _)) hr, fun k _ hk => ?_⟩) ?_ ?_)
    · rintro ⟨_, h2⟩
      have := hx.next_le (i := k + 1) (j := ops.size) (by omega) (Nat.le_refl _)
      omega
    · funext t
      rcases last_of (fun k => dstAt ops k = some t) ops.size with ⟨k, h1, h2, h3⟩ | h
      · rw [hat.tm k t (hall k h1) h1 h2]
        exact hx.temps_same (by omega) (Nat.le_refl _) fun k' h4 h5 h6 => by have := h3 k' h5 h6; omega
      · rw [hat.tn t fun k _ hk => h k hk]
        exact hx.temps_same (Nat.zero_le _) (Nat.le_refl _) fun k _ hk => h k hk
    · funext r
      rcases hat.st r with ⟨k, h1, _, _, h4, h5⟩ | ⟨h1, h2⟩
      · rw [h5]
        exact hx.store_same (by omega) (Nat.le_refl _) fun k' h6 h7 h8 => by have := h4 k' h7 (hall k' h7) h8; omega
      · rw [h2]
        exact hx.store_same (Nat.zero_le _) (Nat.le_refl _) fun k _ hk => h1 k hk (hall k hk)
  intro fuel
  induction fuel with
  | zero =>
    intro listed st a w hsz hfu hcl hat hrel
    have hall : ∀ k, k < ops.size → listed.getD k true = true := by
      intro k hk
      have : ((List.range ops.size).filter fun k => !listed.getD k true) = [] := List.length_eq_zero_iff.1 (Nat.le_zero.1 hfu)
      have := List.filter_eq_nil_iff.1 this k (by simpa using hk)
      simpa using this
    refine ⟨?_, fin listed st a w hall hat hrel⟩
    cases hr : Region.ready .any ops listed with
    | nil => rfl
    | cons x xs =>
      have hx : x ∈ Region.ready .any ops listed := by rw [hr]; simp
      rw [mem_ready] at hx
      obtain ⟨h1, o, h2, _⟩ := hx
      rw [hall x (Array.getElem?_eq_some_iff.1 h2).1] at h1
      cases h1
  | succ fuel ih =>
    intro listed st a w hsz hfu hcl hat hrel
    refine ⟨fun hr => fin listed st a w (ready_nil hok hsz hr) hat hrel, fun i hi => ?_⟩
    rw [mem_ready] at hi
    obtain ⟨hun, o, ho, hafter0⟩ := hi
    have hlt : i < ops.size := (Array.getElem?_eq_some_iff.1 ho).1
    have hafter : ∀ e ∈ o.after, Region.binds .any e = true → listed.getD e.on true = true := by
      intro e he hb
      have h1 := drawOk_after hok ho e he hb
      have h2 := hafter0 e he hb
      have : e.on < listed.size := by omega
      simp [this] at h2 ⊢
      exact h2
    have hun' : ¬ listed.getD i true = true := by rw [hun]; simp
    -- who is listed stands right
    have noafter : ∀ k, k < ops.size → listed.getD k true = true → ¬ Bef ops i k := fun k hk hl hb => hun' (hb.closed (L := fun k => listed.getD k true = true) hcl hl)
    have before : ∀ k, Bef ops k i → listed.getD k true = true := fun k hb => hb.after (L := fun k => listed.getD k true = true) hcl ho hafter
    have hstep := hx.step i o ho
    -- those of the listed that write what it touches come before it in the text, and all that do so are listed
    have wl : ∀ r ∈ T i ++ W i, ∀ k, k < ops.size → listed.getD k true = true → r ∈ W k → k < i := by
      intro r hr k hk hl hrk
      have hne : k ≠ i := by rintro rfl; exact hun' hl
      rcases hx.apart k i hk hlt hne with h | h | h
      · exact absurd hr (h r hrk)
      · exact h.lt hok
      · exact absurd h (noafter k hk hl)
    have wb : ∀ r ∈ T i ++ W i, ∀ k, k < i → r ∈ W k → listed.getD k true = true := by
      intro r hr k hk hrk
      rcases hx.apart k i (by omega) hlt (by omega) with h | h | h
      · exact absurd hr (h r hrk)
      · exact before k h
      · have := h.lt hok; omega
    have hstore : ∀ r ∈ T i ++ W i, st.store r = (Sf i).store r := by
      intro r hr
      rcases hat.st r with ⟨k, h1, h2, h3, h4, h5⟩ | ⟨h1, h2⟩
      · have hki := wl r hr k h1 h2 h3
        rw [h5]
        exact (hx.store_same (i := k + 1) (j := i) (by omega) (by omega) fun k' h6 h7 h8 => by have := h4 k' (by omega) (wb r hr k' h7 h8) h8; omega).symm
      · rw [h2]
        exact (hx.store_same (i := 0) (j := i) (Nat.zero_le _) (by omega) fun k' _ h7 h8 => h1 k' (by omega) (wb r hr k' h7 h8) h8).symm
    have htemps : ∀ d, (∀ j, dstAt ops j = some d → (∃ e ∈ o.after, Region.binds .any e = true ∧ e.on = j) ∨ ∃ oj, ops[j]? = some oj ∧ ∃ e ∈ oj.after, Region.binds .any e = true ∧ e.on = i) → st.temps d = (Sf i).temps d := by
      intro d hd
      by_cases hk : ∃ k, k < ops.size ∧ dstAt ops k = some d
      · obtain ⟨k, hk, hkd⟩ := hk
        rcases hd k hkd with hd | ⟨ok, hok', e, he, hb, hei⟩
        case inr =>
          have hik : i < k := by have := drawOk_after hok hok' e he hb; omega
          have hnk : ¬ listed.getD k true = true := fun hl => by
            have := hcl k ok hok' hl e he hb
            rw [hei] at this
            exact hun' this
          have huniq : ∀ k', k' < ops.size → dstAt ops k' = some d → k' = k := fun k' hk' hd' => by
            have hko : ops[k']? = some ops[k'] := by simp [hk']
            rcases (drawOk_dst hok hko hkd).1 with h | h
            · exact h.symm
            · rw [dstAt_get hko] at hd'; exact absurd hd' h
          rw [hat.tn d fun k' hl hk' hd' => hnk (by rw [← huniq k' hk' hd']; exact hl)]
          exact (hx.temps_same (i := 0) (j := i) (Nat.zero_le _) (by omega) fun k' _ h3 h4 => by have := huniq k' (by omega) h4; omega).symm
        obtain ⟨e, he, hb, rfl⟩ := hd
        have h1 := drawOk_after hok ho e he hb
        rw [hat.tm _ d (hafter e he hb) hk hkd]
        refine (hx.temps_same (i := e.on + 1) (j := i) (by omega) (by omega) fun k' h2 h3 h4 => ?_).symm
        have hko : ops[k']? = some ops[k'] := by simp
        rcases (drawOk_dst hok hko hkd).1 with h | h
        · omega
        · rw [dstAt_get hko] at h4; exact h h4
      · have hno : ∀ k, k < ops.size → dstAt ops k ≠ some d := fun k hk' hd => hk ⟨k, hk', hd⟩
        rw [hat.tn d fun k _ h => hno k h]
        exact (hx.temps_same (i := 0) (j := i) (Nat.zero_le _) (by omega) fun k _ h => hno k (by omega)).symm
    have hops : ∀ x ∈ o.op.operands, ev E (Sf i) x = ev E st x := by
      intro x hx'
      cases x with
      | tmp t =>
        simp only [ev]
        rw [htemps t fun j hj => (drawOk_dst hok ho hj).2 ⟨_, hx', rfl⟩]
      | _ => rfl
    have hguard : ∀ g want d, o.guard = some (g, want) → dstAt ops g = some d → ev E st (.tmp d) = ev E (Sf i) (.tmp d) := by
      intro g want d hg hgd
      simp only [ev]
      rw [htemps d fun j hj => ?_]
      obtain ⟨e, he, hb, hon⟩ := drawOk_guard hok ho hg
      refine .inl ⟨e, he, hb, ?_⟩
      rw [hon]
      -- one temporary, one operation
      have hgl : g < ops.size := by
        unfold dstAt at hgd
        cases hx' : ops[g]? with
        | none => simp [hx'] at hgd
        | some _ => exact (Array.getElem?_eq_some_iff.1 hx').1
      have hgo : ops[g]? = some ops[g] := by simp [hgl]
      rcases (drawOk_dst hok hgo hj).1 with h | h
      · exact h.symm
      · rw [dstAt_get hgo] at hgd; exact absurd hgd h
    have hset : ∀ k, (listed.setIfInBounds i true).getD k true = true ↔ (k = i ∨ listed.getD k true = true) := by
      intro k
      by_cases hki : k = i
      · subst hki
        simp [hsz, hlt]
      · have : i ≠ k := fun h => hki h.symm
        rw [getD_set_ne true this]
        simp [hki]
    -- what follows
    have next : ∀ (st' : St) u w', (∀ t, o.dst ≠ some t → st'.temps t = st.temps t) → (∀ d, o.dst = some d → st'.temps d = (Sf (i + 1)).temps d) → (∀ r, r ∉ W i → st'.store r = st.store r) → (∀ r ∈ W i, st'.store r = (Sf (i + 1)).store r) →
        RelF E w0 R0 F0 gh n (frA (FrL ops Sf fun k => listed.getD k true = true) (Sf i).next (Sf (i + 1)).next) st' (a.put o.dst u) w' → wpAny P .any ops Qx fuel (listed.setIfInBounds i true) (a.put o.dst u) w' := by
      intro st' u w' ht1 ht2 hs1 hs2 hr
      refine ih _ st' _ _ (by simp [hsz]) ?_ ?_ ⟨fun k d hk hkl hd => ?_, fun t ht => ?_, fun r => ?_⟩ (hr.of (fun r hr => ?_) rfl rfl)
      · have := filt_lt (p := fun k => !listed.getD k true) (q := fun k => !(listed.setIfInBounds i true).getD k true) (i := i) (fun x hx => ?_) (by simp only [hun]; rfl) (by simp [(hset i).2 (.inl rfl)]) (List.range ops.size) (by simpa using hlt)
        · omega
        · cases hx' : listed.getD x true with
          | false => rfl
          | true => rw [(hset x).2 (.inr hx')] at hx; cases hx
      · intro j o' hj hl e he hb
        rw [hset] at hl ⊢
        right
        rcases hl with rfl | hl
        · rw [ho] at hj
          obtain rfl := Option.some.inj hj
          exact hafter e he hb
        · exact hcl j o' hj hl e he hb
      · rcases (hset k).1 hk with rfl | hk'
        · rw [dstAt_get ho] at hd
          exact ht2 d hd
        · by_cases hod : o.dst = some d
          · have hki : k = i := by
              have hko : ops[k]? = some ops[k] := by simp [hkl]
              rcases (drawOk_dst hok ho hd).1 with h | h
              · exact h
              · exact absurd hod h
            subst hki
            exact ht2 d hod
          · rw [ht1 d hod]; exact hat.tm k d hk' hkl hd
      · have hod : o.dst ≠ some t := by have := ht i ((hset i).2 (.inl rfl)) hlt; rw [dstAt_get ho] at this; exact this
        rw [ht1 t hod]
        exact hat.tn t fun k hk hkl => ht k ((hset k).2 (.inr hk)) hkl
      · by_cases hrw : r ∈ W i
        · left
          refine ⟨i, hlt, (hset i).2 (.inl rfl), hrw, fun k' hk' hl hrk => ?_, hs2 r hrw⟩
          rcases (hset k').1 hl with h | h
          · omega
          · exact Nat.le_of_lt (wl r (List.mem_append_right _ hrw) k' hk' h hrk)
        · rw [hs1 r hrw]
          rcases hat.st r with ⟨k, h1, h2, h3, h4, h5⟩ | ⟨h1, h2⟩
          · refine .inl ⟨k, h1, (hset k).2 (.inr h2), h3, fun k' hk' hl hrk => ?_, h5⟩
            rcases (hset k').1 hl with rfl | h
            · exact absurd hrk hrw
            · exact h4 k' hk' h hrk
          · refine .inr ⟨fun k hk hl hrk => ?_, h2⟩
            rcases (hset k).1 hl with rfl | h
            · exact hrw hrk
            · exact h1 k hk h hrk
      · exact ⟨⟨hr.1, fun k hk => hr.2 k ((hset k).2 (.inr hk))⟩, hr.2 i ((hset i).2 (.inl rfl)) hlt⟩
    have hput : ∀ v t, o.dst ≠ some t → st.put o.dst v t = st.temps t := by
      intro v t ht
      cases hd : o.dst with
      | none => rfl
      | some d => exact upd_other _ _ _ (by rintro rfl; exact ht hd)
    have hput2 : ∀ (s : St) v d, o.dst = some d → s.put o.dst v d = v := by
      intro s v d hd
      rw [hd]
      exact upd_same _ _ _
    unfold wpOp
    rw [ho]
    simp only
    obtain ⟨hd, hs⟩ := hstep
    rcases hs with ⟨hg, p, e, h1, h2, h3, h4, h5⟩ | ⟨⟨g, want, d, hg, hgd, hb⟩, h3, h4, h5⟩
    · have hw : Region.wanted o (yielded ops a.tmps) = true := by
        rcases hg with hg | ⟨g, want, d, hg, hgd, hb⟩
        · simp [Region.wanted, hg]
        · rw [← hguard g want d hg hgd] at hb
          simp [Region.wanted, hg, yield_bool hrel hgd hb]
      rw [if_pos hw]
      left
      -- the state with its own window of numbers
      have hrel2 : RelF E w0 R0 F0 gh n (FrL ops Sf fun k => listed.getD k true = true) ⟨st.temps, st.store, (Sf i).next⟩ a w := hrel.of (fun _ h => h) rfl rfl
      have hop : opR call E ⟨st.temps, st.store, (Sf i).next⟩ o.op = some (p, e) := by
        refine opR_local (st := Sf i) rfl (fun x hx' => ?_) (fun r hr => ?_) h1
        · rw [hops x hx']; cases x <;> rfl
        · exact (hstore r (List.mem_append_left _ (by rw [h4]; exact hr))).symm
      have hnx : (Sf (i + 1)).next = e.nx := by rw [h3]; rfl
      refine opR_sound hT hS hcall hrel2 hd hop h2 (fun r hr1 hr2 => ?_) fun w' u hr => ?_
      · refine ⟨Nat.le_trans (hx.next_le (Nat.zero_le i) (by omega)) hr1, fun k hk hkl => ?_⟩
        rintro ⟨h6, h7⟩
        have hne : k ≠ i := by rintro rfl; exact hun' hk
        simp only at hr1
        rcases Nat.lt_or_gt_of_ne hne with hki | hki
        · have := hx.next_le (i := k + 1) (j := i) (by omega) (by omega)
          omega
        · have := hx.next_le (i := i + 1) (j := k) (by omega) (by omega)
          omega
      · refine next _ u w' (fun t ht => hput _ t ht) (fun d hd => ?_) (fun r hr => ?_) (fun r hr => ?_) (by rw [hnx]; exact hr)
        · rw [h3]
          simp only [St.app]
          exact (hput2 ⟨st.temps, st.store, (Sf i).next⟩ _ d hd).trans (hput2 (Sf i) _ d hd).symm
        · exact applyStore_not (by rw [h5] at hr; exact hr)
        · rw [h3]
          exact applyStore_mem (by rw [h5] at hr; exact hr)
    · have hw : Region.wanted o (yielded ops a.tmps) = false := by
        rw [← hguard g want d hg hgd] at hb
        rcases hb with ⟨b, hb, hne⟩ | hb
        · simp [Region.wanted, hg, yield_bool hrel hgd hb, hne]
        · simp [Region.wanted, hg, yield_void hrel hgd hb]
      rw [hw]
      simp only [Bool.false_eq_true, if_false]
      refine next (st.skip o.dst) Go.undef w (fun t ht => hput _ t ht) (fun d hd => ?_) (fun r _ => rfl) (fun r hr => by rw [h5] at hr; simp at hr) ((hrel.skip hd).of (fun r hr => hr.1) rfl rfl)
      rw [h3]
      exact (hput2 st _ d hd).trans (hput2 (Sf i) _ d hd).symm

theorem RelF.drew (h : RelF E w0 R0 F0 gh n Fr st a w) (k : Nat) : RelF E w0 R0 F0 gh n Fr st a { w with drawn := k } := by
  obtain ⟨R, σ, fps, h⟩ := h
  have vm : ∀ pv v f, V w R σ pv v f → V { w with drawn := k } R σ pv v f := fun pv v f hv => V.mono (w := w) (w' := { w with drawn := k }) (fun _ h => h) (Le.refl _) (fun _ _ => rfl) _ _ _ (fun _ _ => rfl) hv
  exact ⟨R, σ, fps, ⟨fun t => vm _ _ _ (h.tm t), fun r x hx => by obtain ⟨k, h1, h2, h3⟩ := h.rt r x hx; exact ⟨k, h1, vm _ _ _ h2, h3⟩, h.nn, h.nd, h.dj, h.fb, h.Rb, h.R0R, h.keep, h.sz, h.tape, h.os, h.out, h.fr, h.gl.mono (w := w) (w' := { w with drawn := k }) (fun _ h => h) (fun _ _ => rfl), h.nt, h.df⟩⟩

theorem draw_sound (hT : TyOk P E.T) (hS : SOk P E.S) (hm : P.follows .mixedOrders = true) (hcall : CallOk P E call) {ops : Array Oper} (hok : drawOk ops = true) {Sf : Nat → St} {T W : Nat → List Nat} (hx : Text call E n ops Sf T W) {Qx : Exit → Act → World → Prop}
    (hQ : ∀ a w, RelX E w0 R0 F0 gh n (Sf ops.size) a w → Qx .normal a w) (h : RelX E w0 R0 F0 gh n (Sf 0) a w) {id : Nat} : (Code.region id ops true).wp P Qx a w := by
  refine wp_region_any hm ?_
  have hno : ∀ k, k < ops.size → ¬ (Array.replicate ops.size false).getD k true = true := fun k hk => by simp [hk]
  refine any_sound hT hS hcall hok hx hQ ops.size _ (Sf 0) a _ (by simp) ?_ ?_ ⟨fun k d hk hkl => absurd hk (hno k hkl), fun _ _ => rfl, fun r => .inr ⟨fun k hk hl => absurd hl (hno k hk), rfl⟩⟩ (RelF.of (h.drew _) (fun r hr => hr.1) rfl rfl)
  · exact Nat.le_trans (List.length_filter_le _ _) (by simp)
  · intro j o hj hl
    exact absurd hl (hno j (Array.getElem?_eq_some_iff.1 hj).1)
end
end Go.Proofs.YtanbccpabgcmaaaGreatDoor.PVE
