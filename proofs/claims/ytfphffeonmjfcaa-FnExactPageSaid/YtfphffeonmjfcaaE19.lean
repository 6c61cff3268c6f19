/- The PV engine, part 19: regions. -/
import Derived.Test.YtfphffeonmjfcaaE18
import Derived.Still
set_option linter.unusedVariables false
set_option linter.unusedSimpArgs false
set_option linter.unusedSectionVars false
namespace Go.Proofs.Ytfphffeonmjfcaa.PVE
open PV

section
variable {P : Program} {E : Env} {w0 : World} {R0 : Nat → Prop} {F0 : List Nat} {gh : Nat → Value} {n : Nat} {R : Nat → Prop} {σ : Nat → Option Hd} {fps : Nat → List Nat} {st : St} {a : Act} {w : World}

def RelX (E : Env) (w0 : World) (R0 : Nat → Prop) (F0 : List Nat) (gh : Nat → Value) (n : Nat) (st : St) (a : Act) (w : World) : Prop := ∃ R σ fps, Rel w0 R0 F0 gh E.G n R σ fps st a w

theorem yield_bool (h : RelX E w0 R0 F0 gh n st a w) {ops : Array Oper} {j d : Nat} {b : Bool} (hj : (ops[j]?).bind (·.dst) = some d) (hb : ev E st (.tmp d) = .bool b) : yielded ops a.tmps j = some b := by
  obtain ⟨R, σ, fps, h⟩ := h
  have := ev_V h (.tmp d)
  rw [hb] at this
  simp only [V] at this
  have h1 := this.1
  simp only [Act.eval] at h1
  unfold yielded
  rw [hj]
  simp only [Option.bind_some]
  rw [Array.getD_eq_getD_getElem?] at h1
  cases hx : a.tmps[d]? with
  | none => rw [hx] at h1; simp [Go.undef] at h1
  | some v => rw [hx] at h1; simp at h1; subst h1; rfl
theorem yield_void (h : RelX E w0 R0 F0 gh n st a w) {ops : Array Oper} {j d : Nat} (hj : (ops[j]?).bind (·.dst) = some d) (hb : ev E st (.tmp d) = .void) : yielded ops a.tmps j = none := by
  obtain ⟨R, σ, fps, h⟩ := h
  have := ev_V h (.tmp d)
  rw [hb] at this
  simp only [V] at this
  have h1 := this.1
  simp only [Act.eval] at h1
  unfold yielded
  rw [hj]
  simp only [Option.bind_some]
  rw [Array.getD_eq_getD_getElem?] at h1
  cases hx : a.tmps[d]? with
  | none => rfl
  | some v => rw [hx] at h1; simp at h1; subst h1; rfl

theorem RelX.skip (h : RelX E w0 R0 F0 gh n st a w) {dst : Option Nat} (hd : dstOk n dst) : RelX E w0 R0 F0 gh n ⟨st.put dst .void, st.store, st.next⟩ (a.put dst Go.undef) w := by
  obtain ⟨R, σ, fps, h⟩ := h
  exact ⟨R, σ, fps, h.value (v := .void) (u := Go.undef) hd (by simp [V, Go.undef])⟩

theorem opP_dst {o : Op} {K K' : Eff → Prop} {p : Prop} (h : opP P E st o K) (hk : ∀ e, K e → p ∧ K' e) : p ∧ opP P E st o K' := by
  obtain ⟨e, h1, h2⟩ := opP_ex h
  exact ⟨(hk e h2).1, h1 K' (hk e h2).2⟩

theorem opsP_sound (hT : TyOk P E.T) {ops : Array Oper} {Q : St → Prop} {Qx : Exit → Act → World → Prop} (hQ : ∀ st a w, RelX E w0 R0 F0 gh n st a w → Q st → Qx .normal a w) :
    ∀ (l : List Oper) (st : St) (a : Act) (w : World), RelX E w0 R0 F0 gh n st a w → pwpOps P E n ops Q l st → wpList P ops Qx l a w
  | [], st, a, w, h, hp => hQ st a w h hp
  | o :: l, st, a, w, h, hp => by
    have run : opP P E st o.op (fun e => dstOk n o.dst ∧ pwpOps P E n ops Q l (st.app o.dst e)) → o.wp P a w (wpList P ops Qx l) Qx := by
      intro hop
      obtain ⟨hd, hop⟩ := opP_dst hop fun e he => he
      obtain ⟨R, σ, fps, hr⟩ := h
      exact opP_sound hT hr hd hop fun e w' R' σ' fps' u hk hrel => opsP_sound hT hQ l _ _ _ ⟨R', σ', fps', hrel⟩ hk
    unfold wpList
    simp only [pwpOps] at hp
    cases hg : o.guard with
    | none =>
      rw [hg] at hp
      rw [if_pos (by simp [Region.wanted, hg])]
      exact .inl (run hp)
    | some g =>
      obtain ⟨j, want⟩ := g
      rw [hg] at hp
      simp only at hp
      cases hj : (ops[j]?).bind (·.dst) with
      | none => rw [hj] at hp; exact hp.elim
      | some d =>
        rw [hj] at hp
        simp only at hp
        split at hp
        · rename_i b hb
          have hy := yield_bool h hj hb
          split at hp
          · rename_i hbw
            rw [if_pos (by simp [Region.wanted, hg, hy, hbw])]
            exact .inl (run hp)
          · rename_i hbw
            rw [if_neg (by simp [Region.wanted, hg, hy, hbw])]
            exact opsP_sound hT hQ l _ _ _ (h.skip hp.1) hp.2
        · rename_i hb
          have hy := yield_void h hj hb
          rw [if_neg (by simp [Region.wanted, hg, hy])]
          exact opsP_sound hT hQ l _ _ _ (h.skip hp.1) hp.2
        · exact hp.elim

/-! ### In any order -/
/-- s: the state st, and the values of the operations of L. -/
def AtL (ops : Array Oper) (st : St) (vals : Nat → PV) (L : Nat → Prop) (s : St) : Prop :=
  s.store = st.store ∧ s.next = st.next ∧ (∀ k d, L k → dstAt ops k = some d → s.temps d = vals k) ∧ ∀ t, (∀ k, L k → dstAt ops k ≠ some t) → s.temps t = st.temps t

def StepOk (P : Program) (E : Env) (n : Nat) (ops : Array Oper) (o : Oper) (s : St) (v : PV) : Prop :=
  dstOk n o.dst ∧ (((o.guard = none ∨ ∃ g want d, o.guard = some (g, want) ∧ dstAt ops g = some d ∧ ev E s (.tmp d) = .bool want) ∧
      ∃ e, (∀ K : Eff → Prop, K e → opP P E s o.op K) ∧ e.rem = [] ∧ e.add = [] ∧ e.nx = s.next ∧ e.val = v) ∨
    (v = .void ∧ ∃ g want d, o.guard = some (g, want) ∧ dstAt ops g = some d ∧ ((∃ b, ev E s (.tmp d) = .bool b ∧ b ≠ want) ∨ ev E s (.tmp d) = .void)))

theorem drawOk_after {ops : Array Oper} (h : drawOk ops = true) {i : Nat} {o : Oper} (hi : ops[i]? = some o) : ∀ e ∈ o.after, e.on < i := by
  have hlt : i < ops.size := (Array.getElem?_eq_some_iff.1 hi).1
  have := List.all_eq_true.1 h i (by simpa using hlt)
  simp only [hi, Bool.and_eq_true] at this
  have h1 := this.1
  exact fun e he => by simpa using List.all_eq_true.1 h1 e (Array.mem_toList_iff.2 he)
theorem drawOk_guard {ops : Array Oper} (h : drawOk ops = true) {i : Nat} {o : Oper} (hi : ops[i]? = some o) {g : Nat} {want : Bool} (hg : o.guard = some (g, want)) : ∃ e ∈ o.after, Region.binds .any e = true ∧ e.on = g := by
  have hlt : i < ops.size := (Array.getElem?_eq_some_iff.1 hi).1
  have := List.all_eq_true.1 h i (by simpa using hlt)
  simp only [hi, hg, Bool.and_eq_true] at this
  obtain ⟨e, he, hb⟩ := List.any_eq_true.1 this.2.1
  exact ⟨e, Array.mem_toList_iff.1 he, by simpa using hb⟩
theorem drawOk_dst {ops : Array Oper} (h : drawOk ops = true) {i j : Nat} {o : Oper} {d : Nat} (hi : ops[i]? = some o) (hj : dstAt ops j = some d) : (j = i ∨ o.dst ≠ some d) ∧ ((∃ x ∈ o.op.operands, x = .tmp d) → ∃ e ∈ o.after, Region.binds .any e = true ∧ e.on = j) := by
  have hlt : i < ops.size := (Array.getElem?_eq_some_iff.1 hi).1
  have hjl : j < ops.size := by
    unfold dstAt at hj
    cases hx : ops[j]? with
    | none => simp [hx] at hj
    | some _ => exact (Array.getElem?_eq_some_iff.1 hx).1
  have := List.all_eq_true.1 h i (by simpa using hlt)
  simp only [hi, Bool.and_eq_true] at this
  have h2 := List.all_eq_true.1 this.2.2 j (by simpa using hjl)
  simp only [hj, Bool.and_eq_true, Bool.or_eq_true] at h2
  refine ⟨by simpa using h2.1, fun ⟨x, hx, hxd⟩ => ?_⟩
  rcases h2.2 with h3 | h3
  · have : (o.op.operands.toList.any (isTmp d)) = true := List.any_eq_true.2 ⟨x, Array.mem_toList_iff.2 hx, by subst hxd; simp [isTmp]⟩
    rw [this] at h3
    cases h3
  · obtain ⟨e, he, hb⟩ := List.any_eq_true.1 h3
    exact ⟨e, Array.mem_toList_iff.1 he, by simpa using hb⟩

theorem dstAt_get {ops : Array Oper} {i : Nat} {o : Oper} (hi : ops[i]? = some o) : dstAt ops i = o.dst := by simp [dstAt, hi]

/-- What an operation does is the same wherever its operands' values are. -/
theorem StepOk.same {ops : Array Oper} {o : Oper} {s s' : St} {v : PV} (h : StepOk P E n ops o s v) (hs : s.store = s'.store) (hn : s.next = s'.next)
    (ht : ∀ d, (∃ x ∈ o.op.operands, x = .tmp d) → s.temps d = s'.temps d) (hg : ∀ g want d, o.guard = some (g, want) → dstAt ops g = some d → s.temps d = s'.temps d) : StepOk P E n ops o s' v := by
  obtain ⟨hd, h⟩ := h
  refine ⟨hd, ?_⟩
  rcases h with ⟨h1, e, h2, h3, h4, h5, h6⟩ | ⟨h1, g, want, d, h2, h3, h4⟩
  · left
    refine ⟨?_, e, fun K hk => opP_temps hs hn (fun x hx => ?_) (h2 K hk), h3, h4, by rw [← hn]; exact h5, h6⟩
    · rcases h1 with h1 | ⟨g, want, d, h1, h7, h8⟩
      · exact .inl h1
      · exact .inr ⟨g, want, d, h1, h7, by rw [← h8]; simp only [ev]; rw [hg g want d h1 h7]⟩
    · cases x with
      | tmp t => simp only [ev]; rw [ht t ⟨_, hx, rfl⟩]
      | _ => rfl
  · right
    refine ⟨h1, g, want, d, h2, h3, ?_⟩
    have : ev E s' (.tmp d) = ev E s (.tmp d) := by simp only [ev]; rw [hg g want d h2 h3]
    rw [this]
    exact h4

/-- The run in the text's order, taken apart. -/
theorem val_parts {ops : Array Oper} (hok : drawOk ops = true) {Q : St → Prop} : ∀ (l : List Oper) (i : Nat) (s : St), (∀ j, l[j]? = ops[i + j]?) → pwpVal P E n ops Q l s →
    ∃ (vals : Nat → PV) (sf : St), Q sf ∧ AtL ops s vals (fun k => i ≤ k ∧ k < ops.size) sf ∧ ∀ j o, i ≤ j → ops[j]? = some o → ∃ sj, AtL ops s vals (fun k => i ≤ k ∧ k < j) sj ∧ StepOk P E n ops o sj (vals j)
  | [], i, s, hl, hp => by
    have hsz : ops.size ≤ i := by
      have := hl 0
      simp at this
      exact this
    refine ⟨fun _ => .void, s, hp, ⟨rfl, rfl, fun k d hk => by omega, fun t _ => rfl⟩, fun j o hj ho => ?_⟩
    have := (Array.getElem?_eq_some_iff.1 ho).1
    omega
  | o :: l, i, s, hl, hp => by
    have hi : ops[i]? = some o := by simpa using (hl 0).symm
    have hlt : i < ops.size := (Array.getElem?_eq_some_iff.1 hi).1
    -- the first step
    obtain ⟨v, hstep, hrest⟩ : ∃ v, StepOk P E n ops o s v ∧ pwpVal P E n ops Q l ⟨s.put o.dst v, s.store, s.next⟩ := by
      have run : (o.guard = none ∨ ∃ g want d, o.guard = some (g, want) ∧ dstAt ops g = some d ∧ ev E s (.tmp d) = .bool want) → opP P E s o.op (fun e => (dstOk n o.dst ∧ e.rem = [] ∧ e.add = [] ∧ e.nx = s.next) ∧ pwpVal P E n ops Q l (s.app o.dst e)) →
          ∃ v, StepOk P E n ops o s v ∧ pwpVal P E n ops Q l ⟨s.put o.dst v, s.store, s.next⟩ := by
        intro hg hop
        obtain ⟨e, h1, ⟨h2, h3, h4, h5⟩, h6⟩ := opP_ex hop
        refine ⟨e.val, ⟨h2, .inl ⟨hg, e, h1, h3, h4, h5, rfl⟩⟩, ?_⟩
        have : s.app o.dst e = ⟨s.put o.dst e.val, s.store, s.next⟩ := by simp [St.app, h3, h4, h5, applyStore]
        rw [← this]
        exact h6
      simp only [pwpVal] at hp
      cases hg : o.guard with
      | none => rw [hg] at hp; exact run (.inl hg) hp
      | some g =>
        obtain ⟨j, want⟩ := g
        rw [hg] at hp
        simp only at hp
        cases hj : (ops[j]?).bind (·.dst) with
        | none => rw [hj] at hp; exact hp.elim
        | some d =>
          rw [hj] at hp
          simp only at hp
          split at hp
          · rename_i b hb
            split at hp
            · rename_i hbw
              exact run (.inr ⟨j, want, d, hg, hj, by rw [hb, hbw]⟩) hp
            · rename_i hbw
              exact ⟨.void, ⟨hp.1, .inr ⟨rfl, j, want, d, hg, hj, .inl ⟨b, hb, hbw⟩⟩⟩, hp.2⟩
          · rename_i hb
            exact ⟨.void, ⟨hp.1, .inr ⟨rfl, j, want, d, hg, hj, .inr hb⟩⟩, hp.2⟩
          · exact hp.elim
    obtain ⟨vals, sf, hq, hf, hj⟩ := val_parts hok l (i + 1) _ (fun j => by have := hl (j + 1); simpa [Nat.add_assoc, Nat.add_comm 1 j] using this) hrest
    have lift : ∀ m s', i + 1 ≤ m → AtL ops ⟨s.put o.dst v, s.store, s.next⟩ vals (fun k => i + 1 ≤ k ∧ k < m) s' → AtL ops s (fun k => if k = i then v else vals k) (fun k => i ≤ k ∧ k < m) s' := by
      rintro m s' hm ⟨h1, h2, h3, h4⟩
      refine ⟨h1, h2, fun k d hk hd => ?_, fun t ht => ?_⟩
      · by_cases hki : k = i
        · subst hki
          simp only [if_true]
          rw [h4 d fun k' hk' hd' => ?_]
          · rw [dstAt_get hi] at hd
            simp [St.put, hd, upd]
          · have := (drawOk_dst hok hi hd').1
            rw [dstAt_get hi] at hd
            rcases this with h | h
            · omega
            · exact h hd
        · simp only [hki, if_false]
          exact h3 k d ⟨by omega, hk.2⟩ hd
      · rw [h4 t fun k hk => ht k ⟨by omega, hk.2⟩]
        have := ht i ⟨Nat.le_refl _, by omega⟩
        rw [dstAt_get hi] at this
        cases hd : o.dst with
        | none => rfl
        | some d =>
          rw [hd] at this
          simp only [St.put]
          exact upd_other _ _ _ (by rintro rfl; exact this rfl)
    refine ⟨fun k => if k = i then v else vals k, sf, hq, lift _ _ (by omega) hf, fun j o' hij ho' => ?_⟩
    by_cases hji : j = i
    · subst hji
      obtain rfl : o' = o := by rw [hi] at ho'; exact (Option.some.inj ho').symm
      exact ⟨s, ⟨rfl, rfl, fun k d hk => by omega, fun _ _ => rfl⟩, by simpa using hstep⟩
    · obtain ⟨sj, h1, h2⟩ := hj j o' (by omega) ho'
      exact ⟨sj, lift _ _ (by omega) h1, by simpa [hji] using h2⟩

theorem filt_le {p q : Nat → Bool} (h : ∀ x, q x = true → p x = true) : ∀ l : List Nat, (l.filter q).length ≤ (l.filter p).length
  | [] => by simp
  | x :: l => by
    have ih := filt_le h l
    simp only [List.filter_cons]
    cases hq : q x with
    | true => simp [h x hq]; exact ih
    | false => cases hp : p x <;> simp <;> omega
theorem filt_lt {p q : Nat → Bool} (h : ∀ x, q x = true → p x = true) {i : Nat} (hp : p i = true) (hq : q i = false) : ∀ l : List Nat, i ∈ l → (l.filter q).length < (l.filter p).length
  | [], hi => by simp at hi
  | x :: l, hi => by
    simp only [List.filter_cons]
    by_cases hx : x = i
    · subst hx
      have := filt_le h l
      simp [hp, hq]; omega
    · have := filt_lt h hp hq l (by rcases List.mem_cons.1 hi with rfl | hi; exact absurd rfl hx; exact hi)
      cases hqx : q x with
      | true => simp [h x hqx]; exact this
      | false => cases hpx : p x <;> simp <;> omega

theorem ready_nil {ops : Array Oper} (hok : drawOk ops = true) {listed : Array Bool} (hsz : listed.size = ops.size) (hr : Region.ready .any ops listed = []) : ∀ k, k < ops.size → listed.getD k true = true := by
  intro k
  induction k using Nat.strongRecOn with
  | _ k ih =>
    intro hk
    cases hl : listed.getD k true with
    | true => rfl
    | false =>
      exfalso
      have : k ∈ Region.ready .any ops listed := by
        rw [mem_ready]
        refine ⟨hl, ops[k], by simp [hk], fun e he _ => ?_⟩
        have hlt := drawOk_after hok (i := k) (o := ops[k]) (by simp [hk]) e he
        have := ih e.on hlt (by omega)
        have hon : e.on < listed.size := by omega
        simp [hon] at this ⊢
        exact this
      rw [hr] at this
      cases this

theorem any_sound (hT : TyOk P E.T) {ops : Array Oper} (hok : drawOk ops = true) {s : St} {vals : Nat → PV} {sf : St} {Qx : Exit → Act → World → Prop}
    (hf : AtL ops s vals (fun k => 0 ≤ k ∧ k < ops.size) sf) (hj : ∀ j o, 0 ≤ j → ops[j]? = some o → ∃ sj, AtL ops s vals (fun k => 0 ≤ k ∧ k < j) sj ∧ StepOk P E n ops o sj (vals j))
    (hQ : ∀ a w, RelX E w0 R0 F0 gh n sf a w → Qx .normal a w) :
    ∀ (fuel : Nat) (listed : Array Bool) (st : St) (a : Act) (w : World), listed.size = ops.size → ((List.range ops.size).filter fun k => !listed.getD k true).length ≤ fuel → AtL ops s vals (fun k => k < ops.size ∧ listed.getD k true = true) st → RelX E w0 R0 F0 gh n st a w →
      wpAny P .any ops Qx fuel listed a w := by
  have fin : ∀ (listed : Array Bool) (st : St) (a : Act) (w : World), (∀ k, k < ops.size → listed.getD k true = true) → AtL ops s vals (fun k => k < ops.size ∧ listed.getD k true = true) st → RelX E w0 R0 F0 gh n st a w → Qx .normal a w := by
    rintro listed st a w hall ⟨h1, h2, h3, h4⟩ hrel
    obtain ⟨f1, f2, f3, f4⟩ := hf
    have : st = sf := by
      obtain ⟨t, s1, nx⟩ := st
      obtain ⟨t', s1', nx'⟩ := sf
      simp only at h1 h2 h3 h4 f1 f2 f3 f4
      subst h1 h2 f1 f2
      have : t = t' := by
        funext x
        by_cases hx : ∃ k, k < ops.size ∧ dstAt ops k = some x
        · obtain ⟨k, hk, hd⟩ := hx
          rw [h3 k x ⟨hk, hall k hk⟩ hd, f3 k x ⟨Nat.zero_le _, hk⟩ hd]
        · have hno : ∀ k, k < ops.size → dstAt ops k ≠ some x := fun k hk hd => hx ⟨k, hk, hd⟩
          rw [h4 x fun k hk => hno k hk.1, f4 x fun k hk => hno k hk.2]
      subst this
      rfl
    subst this
    exact hQ a w hrel
  intro fuel
  induction fuel with
  | zero =>
    intro listed st a w hsz hfu hat hrel
    have hall : ∀ k, k < ops.size → listed.getD k true = true := by
      intro k hk
      have : ((List.range ops.size).filter fun k => !listed.getD k true) = [] := List.length_eq_zero_iff.1 (Nat.le_zero.1 hfu)
      have := List.filter_eq_nil_iff.1 this k (by simpa using hk)
      simpa using this
    refine ⟨?_, fin listed st a w hall hat hrel⟩
    cases hr : Region.ready .any ops listed with
    | nil => rfl
    | cons x xs =>
      have hx : x ∈ Region.ready .any ops listed := by rw [hr]; simp
      rw [mem_ready] at hx
      obtain ⟨h1, o, h2, _⟩ := hx
      rw [hall x (Array.getElem?_eq_some_iff.1 h2).1] at h1
      cases h1
  | succ fuel ih =>
    intro listed st a w hsz hfu hat hrel
    refine ⟨fun hr => fin listed st a w (ready_nil hok hsz hr) hat hrel, fun i hi => ?_⟩
    rw [mem_ready] at hi
    obtain ⟨hun, o, ho, hafter⟩ := hi
    have hlt : i < ops.size := (Array.getElem?_eq_some_iff.1 ho).1
    obtain ⟨sj, hsj, hstep⟩ := hj i o (Nat.zero_le _) ho
    obtain ⟨a1, a2, a3, a4⟩ := hat
    obtain ⟨b1, b2, b3, b4⟩ := hsj
    have look : ∀ j d, dstAt ops j = some d → (∃ e ∈ o.after, Region.binds .any e = true ∧ e.on = j) → sj.temps d = st.temps d := by
      rintro j d hd ⟨e, he, hb, rfl⟩
      have h1 := drawOk_after hok ho e he
      have h2 := hafter e he hb
      have h3 : listed.getD e.on true = true := by
        have : e.on < listed.size := by omega
        simp [this] at h2 ⊢
        exact h2
      rw [b3 _ _ ⟨Nat.zero_le _, h1⟩ hd, a3 _ _ ⟨by omega, h3⟩ hd]
    have hops : ∀ d, (∃ x ∈ o.op.operands, x = .tmp d) → sj.temps d = st.temps d := by
      intro d hx
      by_cases hk : ∃ k, k < ops.size ∧ dstAt ops k = some d
      · obtain ⟨k, hk, hd⟩ := hk
        exact look k d hd ((drawOk_dst hok ho hd).2 hx)
      · have hno : ∀ k, k < ops.size → dstAt ops k ≠ some d := fun k hk' hd => hk ⟨k, hk', hd⟩
        rw [a4 d fun k hk => hno k hk.1, b4 d fun k hk => hno k (by omega)]
    have hs := hstep.same (s' := st) (by rw [b1, a1]) (by rw [b2, a2]) hops (fun g want d hg hd => look g d hd (drawOk_guard hok ho hg))
    -- what follows
    have next : ∀ u w', RelX E w0 R0 F0 gh n ⟨st.put o.dst (vals i), st.store, st.next⟩ (a.put o.dst u) w' → wpAny P .any ops Qx fuel (listed.setIfInBounds i true) (a.put o.dst u) w' := by
      intro u w' hr
      have hset : ∀ k, (listed.setIfInBounds i true).getD k true = true ↔ (k = i ∨ listed.getD k true = true) := by
        intro k
        by_cases hki : k = i
        · subst hki
          simp [hsz, hlt]
        · have : i ≠ k := fun h => hki h.symm
          rw [getD_set_ne true this]
          simp [hki]
      refine ih _ ⟨st.put o.dst (vals i), st.store, st.next⟩ _ _ (by simp [hsz]) ?_ ⟨a1, a2, fun k d hk hd => ?_, fun t ht => ?_⟩ hr
      · have := filt_lt (p := fun k => !listed.getD k true) (q := fun k => !(listed.setIfInBounds i true).getD k true) (i := i) (fun x hx => ?_) (by simp only [hun]; rfl) (by simp [(hset i).2 (.inl rfl)]) (List.range ops.size) (by simpa using hlt)
        · omega
        · cases hx' : listed.getD x true with
          | false => rfl
          | true => rw [(hset x).2 (.inr hx')] at hx; cases hx
      · by_cases hki : k = i
        · subst hki
          rw [dstAt_get ho] at hd
          simp [St.put, hd, upd]
        · have hk' : listed.getD k true = true := ((hset k).1 hk.2).resolve_left hki
          rw [← a3 k d ⟨hk.1, hk'⟩ hd]
          have := (drawOk_dst hok ho hd).1.resolve_left hki
          cases hod : o.dst with
          | none => rfl
          | some d' =>
            rw [hod] at this
            exact upd_other _ _ _ (by rintro rfl; exact this rfl)
      · rw [← a4 t fun k hk => ht k ⟨hk.1, (hset k).2 (.inr hk.2)⟩]
        have := ht i ⟨hlt, (hset i).2 (.inl rfl)⟩
        rw [dstAt_get ho] at this
        cases hod : o.dst with
        | none => rfl
        | some d' =>
          rw [hod] at this
          exact upd_other _ _ _ (by rintro rfl; exact this rfl)
    unfold wpOp
    rw [ho]
    simp only
    obtain ⟨hd, hs⟩ := hs
    rcases hs with ⟨hg, e, h1, h2, h3, h4, h5⟩ | ⟨hv, g, want, d, hg, hgd, hb⟩
    · have hw : Region.wanted o (yielded ops a.tmps) = true := by
        rcases hg with hg | ⟨g, want, d, hg, hgd, hb⟩
        · simp [Region.wanted, hg]
        · simp [Region.wanted, hg, yield_bool hrel hgd hb]
      rw [if_pos hw]
      left
      obtain ⟨R, σ, fps, hr⟩ := hrel
      refine opP_sound hT hr hd (h1 (fun x => x = e) rfl) fun e' w' R' σ' fps' u he' hrel' => ?_
      subst he'
      refine next u w' ⟨R', σ', fps', ?_⟩
      have : st.app o.dst e' = ⟨st.put o.dst (vals i), st.store, st.next⟩ := by simp [St.app, h2, h3, h4, h5, applyStore]
      rw [← this]
      exact hrel'
    · have hw : Region.wanted o (yielded ops a.tmps) = false := by
        rcases hb with ⟨b, hb, hne⟩ | hb
        · simp [Region.wanted, hg, yield_bool hrel hgd hb, hne]
        · simp [Region.wanted, hg, yield_void hrel hgd hb]
      rw [hw]
      simp only [Bool.false_eq_true, if_false]
      refine next Go.undef w ?_
      rw [hv]
      exact hrel.skip hd

theorem RelX.drew (h : RelX E w0 R0 F0 gh n st a w) (k : Nat) : RelX E w0 R0 F0 gh n st a { w with drawn := k } := by
  obtain ⟨R, σ, fps, h⟩ := h
  have vm : ∀ pv v f, V w R σ pv v f → V { w with drawn := k } R σ pv v f := fun pv v f hv => V.mono (w := w) (w' := { w with drawn := k }) (fun _ h => h) (Le.refl _) (fun _ _ => rfl) _ _ _ (fun _ _ => rfl) hv
  exact ⟨R, σ, fps, ⟨fun t => vm _ _ _ (h.tm t), fun r x hx => by obtain ⟨k, h1, h2, h3⟩ := h.rt r x hx; exact ⟨k, h1, vm _ _ _ h2, h3⟩, h.nn, h.nd, h.dj, h.fb, h.Rb, h.R0R, h.keep, h.sz, h.tape, h.os, h.out, h.fr, h.gl.mono (w := w) (w' := { w with drawn := k }) (fun _ h => h) (fun _ _ => rfl), h.nt, h.df⟩⟩

theorem draw_sound (hT : TyOk P E.T) (hm : P.follows .mixedOrders = true) {ops : Array Oper} (hok : drawOk ops = true) {Q : St → Prop} {Qx : Exit → Act → World → Prop} (hQ : ∀ st a w, RelX E w0 R0 F0 gh n st a w → Q st → Qx .normal a w)
    (h : RelX E w0 R0 F0 gh n st a w) (hp : pwpVal P E n ops Q ops.toList st) {id : Nat} : (Code.region id ops true).wp P Qx a w := by
  obtain ⟨vals, sf, hq, hf, hj⟩ := val_parts hok ops.toList 0 st (fun j => by simp) hp
  refine wp_region_any hm ?_
  refine any_sound hT hok hf hj (fun a w hr => hQ sf a w hr hq) ops.size _ st a _ (by simp) ?_ ⟨rfl, rfl, fun k d hk => ?_, fun _ _ => rfl⟩ (h.drew _)
  · exact Nat.le_trans (List.length_filter_le _ _) (by simp)
  · have h1 := hk.1
    have h2 := hk.2
    simp [h1] at h2

end
end Go.Proofs.Ytfphffeonmjfcaa.PVE
