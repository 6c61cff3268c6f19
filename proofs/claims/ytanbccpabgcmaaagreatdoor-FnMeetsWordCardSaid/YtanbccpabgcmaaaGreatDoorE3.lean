/- The PV engine, part 3: how the pure state stands to the model's, and what keeps it so. -/
import Derived.Test.YtanbccpabgcmaaaGreatDoorE2
set_option linter.unusedVariables false
set_option linter.unusedSimpArgs false
set_option linter.unusedSectionVars false
namespace Go.Proofs.YtanbccpabgcmaaaGreatDoor.PVE
open PV

theorem upd_same {α : Type} (f : Nat → α) (i : Nat) (x : α) : upd f i x i = x := by simp [upd]
theorem upd_other {α : Type} (f : Nat → α) (i : Nat) (x : α) {j : Nat} (h : j ≠ i) : upd f i x j = f j := by simp [upd, h]

theorem foldRem (rem : List Nat) : ∀ (s : Nat → Option Root) (r : Nat), (rem.foldl (fun s r => upd s r none) s) r = if r ∈ rem then none else s r := by
  induction rem with
  | nil => intro s r; simp
  | cons x rem ih =>
    intro s r
    rw [List.foldl_cons, ih]
    by_cases h : r ∈ rem
    · simp [h]
    · by_cases hx : r = x
      · subst hx; simp [h, upd]
      · simp [h, hx, upd]
theorem foldAdd_not (add : List (Nat × Root)) : ∀ (s : Nat → Option Root) (r : Nat), r ∉ add.map (·.1) → (add.foldl (fun s x => upd s x.1 (some x.2)) s) r = s r := by
  induction add with
  | nil => intro s r _; rfl
  | cons x add ih =>
    intro s r h
    simp only [List.map_cons, List.mem_cons, not_or] at h
    rw [List.foldl_cons, ih _ _ h.2, upd_other _ _ _ h.1]
theorem foldAdd_mem (add : List (Nat × Root)) : ∀ (s : Nat → Option Root) (r : Nat) (x : Root), (add.map (·.1)).Nodup → (r, x) ∈ add → (add.foldl (fun s x => upd s x.1 (some x.2)) s) r = some x := by
  induction add with
  | nil => intro s r x _ h; cases h
  | cons y add ih =>
    intro s r x hk h
    simp only [List.map_cons, List.nodup_cons] at hk
    rw [List.foldl_cons]
    rcases List.mem_cons.1 h with rfl | h
    · rw [foldAdd_not _ _ _ hk.1, upd_same]
    · exact ih _ _ _ hk.2 h
theorem store_add {s : Nat → Option Root} {rem : List Nat} {add : List (Nat × Root)} (hk : (add.map (·.1)).Nodup) {r : Nat} {x : Root} (h : (r, x) ∈ add) : applyStore s rem add r = some x := foldAdd_mem add _ r x hk h
theorem store_rem {s : Nat → Option Root} {rem : List Nat} {add : List (Nat × Root)} {r : Nat} (h : r ∉ add.map (·.1)) : applyStore s rem add r = if r ∈ rem then none else s r := by
  unfold applyStore; rw [foldAdd_not _ _ _ h, foldRem]

theorem nodup_flat {f : Nat → List Nat} : ∀ {l : List Nat}, (l.flatMap f).Nodup → (∀ x ∈ l, (f x).Nodup) ∧ ∀ x ∈ l, ∀ y ∈ l, x ≠ y → ∀ b ∈ f x, b ∉ f y
  | [], _ => ⟨by simp, by simp⟩
  | a :: l, h => by
    rw [List.flatMap_cons, List.nodup_append] at h
    obtain ⟨h1, h2, h3⟩ := h
    obtain ⟨i1, i2⟩ := nodup_flat h2
    refine ⟨fun x hx => ?_, fun x hx y hy hxy b hb hb' => ?_⟩
    · rcases List.mem_cons.1 hx with rfl | hx
      · exact h1
      · exact i1 x hx
    · rcases List.mem_cons.1 hx with hx' | hx' <;> rcases List.mem_cons.1 hy with hy' | hy'
      · exact hxy (hx'.trans hy'.symm)
      · exact h3 b (hx' ▸ hb) b (List.mem_flatMap.2 ⟨y, hy', hb'⟩) rfl
      · exact h3 b (hy' ▸ hb') b (List.mem_flatMap.2 ⟨x, hx', hb⟩) rfl
      · exact i2 x hx' y hy' hxy b hb hb'

def RootTy (h : Hd) : PV → Prop
  | .slo sz _ => sz = h.sz
  | .pto _ => True
  | .pro _ => ∃ b, h.hdr = .pointer (some ⟨b, 0, none⟩)
  | _ => False

/-- The free numbers, less those from b to e. -/
def frA (Fr : Nat → Prop) (b e : Nat) : Nat → Prop := fun r => Fr r ∧ ¬ (b ≤ r ∧ r < e)
/-- What a temporary holds; from gBase on: a value that the proof keeps. -/
def tmv (gh : Nat → Value) (a : Act) (t : Nat) : Value := if t < gBase then a.tmps.getD t Go.undef else gh (t - gBase)
/-- The pure state st stands for the frame a in the world w. w0, F0, R0: the world when the call began, the blocks that were handed over, those that are only read. -/
structure Rel (w0 : World) (R0 : Nat → Prop) (F0 : List Nat) (gh : Nat → Value) (G : Nat → Option (List PV)) (n : Nat) (Fr : Nat → Prop) (R : Nat → Prop) (σ : Nat → Option Hd) (fps : Nat → List Nat) (st : St) (a : Act) (w : World) : Prop where
  tm : ∀ t, V w R σ (st.temps t) (tmv gh a t) []
  rt : ∀ r x, st.store r = some x → ∃ h, σ r = some h ∧ V w R σ x.pv h.hdr (fps r) ∧ RootTy h x.pv
  nn : ∀ r, st.store r = none → fps r = []
  nd : ∀ r, (fps r).Nodup
  dj : ∀ r s, r ≠ s → ∀ b ∈ fps r, b ∉ fps s
  fb : ∀ r, ∀ b ∈ fps r, b < w.heap.size ∧ ¬ R b ∧ (b ∈ F0 ∨ w0.heap.size ≤ b)
  Rb : ∀ b, R b → b < w.heap.size ∧ (R0 b ∨ b ∈ F0 ∨ w0.heap.size ≤ b)
  R0R : ∀ b, R0 b → R b
  keep : ∀ b, b < w0.heap.size → b ∉ F0 → w.heap[b]? = w0.heap[b]?
  sz : w0.heap.size ≤ w.heap.size
  tape : w.tape = w0.tape
  os : w.os = w0.os
  out : w.output = w0.output
  fr : ∀ r, Fr r → σ r = none ∧ st.store r = none
  gl : GlobOk G w R
  nt : a.tmps.size = n
  df : a.defers = []

theorem GlobOk.mono {G : Nat → Option (List PV)} {w w' : World} {R R' : Nat → Prop} (h : GlobOk G w R) (hR : ∀ b, R b → R' b) (hw : ∀ b, R b → w'.heap[b]? = w.heap[b]?) : GlobOk G w' R' :=
  fun g cs e => ⟨V.mono hR (Le.refl _) hw _ _ _ (by simp) (h g cs e).1, by
    obtain ⟨hv, cur, t, fr, hb, hs⟩ := h g cs e
    simp only [V] at hv
    obtain ⟨_, a, us, ha, hr, _⟩ := hv
    simp only [Value.pointer.injEq, Option.some.injEq] at ha
    subst ha
    exact ⟨cur, t, fr, by rw [hw g hr]; exact hb, hs⟩⟩

theorem getD_put {a : Act} {n d : Nat} (hn : a.tmps.size = n) (hd : d < n) (u : Value) (t : Nat) : (a.put (some d) u).tmps.getD t Go.undef = if t = d then u else a.tmps.getD t Go.undef := by
  simp only [Act.put, Array.getD_eq_getD_getElem?, Array.getElem?_setIfInBounds]
  by_cases h : d = t
  · subst h; simp [hn, hd]
  · simp [h, Ne.symm h]

section change
variable {w0 : World} {R0 : Nat → Prop} {F0 : List Nat} {gh : Nat → Value} {G : Nat → Option (List PV)} {n : Nat} {Fr : Nat → Prop} {R : Nat → Prop} {σ : Nat → Option Hd} {fps : Nat → List Nat} {st : St} {a : Act} {w : World}

/-- A step that changes the store and the world. fpN: the blocks of the roots that are new or turned. -/
theorem Rel.change (h : Rel w0 R0 F0 gh G n Fr R σ fps st a w) {w' : World} {R' : Nat → Prop} {σ' : Nat → Option Hd} {e : Eff} {dst : Option Nat} {u : Value} (hd : dstOk n dst)
    (fpN : Nat → List Nat)
    (hk : (e.add.map (·.1)).Nodup)
    (hR : ∀ b, R b → R' b)
    (hR' : ∀ b, R' b → b < w'.heap.size ∧ (R b ∨ (∃ x ∈ e.rem ++ e.add.map (·.1), b ∈ fps x) ∨ w.heap.size ≤ b))
    (hσ : Le σ σ')
    (hw : ∀ b, R b → w'.heap[b]? = w.heap[b]?)
    (hwf : ∀ r, r ∉ e.rem → r ∉ e.add.map (·.1) → ∀ b ∈ fps r, w'.heap[b]? = w.heap[b]?)
    (hnew : ∀ r x, (r, x) ∈ e.add → ∃ k, σ' r = some k ∧ V w' R' σ' x.pv k.hdr (fpN r) ∧ RootTy k x.pv)
    (hnd : ((e.add.map (·.1)).flatMap fpN).Nodup)
    (hfb : ∀ r ∈ e.add.map (·.1), ∀ b ∈ fpN r, b < w'.heap.size ∧ ¬ R' b ∧ ((∃ x ∈ e.rem ++ e.add.map (·.1), b ∈ fps x) ∨ w.heap.size ≤ b))
    (hkeep : ∀ b, b < w0.heap.size → b ∉ F0 → w'.heap[b]? = w.heap[b]?)
    (hsz : w.heap.size ≤ w'.heap.size) (htape : w'.tape = w.tape) (hos : w'.os = w.os) (hout : w'.output = w.output)
    (hfr : ∀ r, frA Fr st.next e.nx r → σ' r = none) (hlt : ∀ r ∈ e.add.map (·.1), (∃ k, σ r = some k) ∨ (st.next ≤ r ∧ r < e.nx))
    (hval : V w' R' σ' e.val u []) :
    Rel w0 R0 F0 gh G n (frA Fr st.next e.nx) R' σ' (fun r => if r ∈ e.add.map (·.1) then fpN r else if r ∈ e.rem then [] else fps r) (st.app dst e) (a.put dst u) w' := by
  have hX : ∀ b, (∃ x ∈ e.rem ++ e.add.map (·.1), b ∈ fps x) → b ∈ F0 ∨ w0.heap.size ≤ b := fun b ⟨x, _, hb⟩ => (h.fb x b hb).2.2
  have hXR : ∀ b, (∃ x ∈ e.rem ++ e.add.map (·.1), b ∈ fps x) → b < w.heap.size := fun b ⟨x, _, hb⟩ => (h.fb x b hb).1
  refine ⟨?tm, ?rt, ?nn, ?nd, ?dj, ?fb, ?Rb, fun b hb => hR b (h.R0R b hb), fun b h1 h2 => (hkeep b h1 h2).trans (h.keep b h1 h2), Nat.le_trans h.sz hsz, htape.trans h.tape, hos.trans h.os, hout.trans h.out, ?fr, h.gl.mono hR hw, ?nt, ?df⟩
  case tm =>
    intro t
    have hold := V.mono hR hσ hw _ _ _ (by simp) (h.tm t)
    cases dst with
    | none => exact hold
    | some d =>
      unfold tmv at hold ⊢
      rw [getD_put h.nt hd.1]
      by_cases ht : t = d
      · subst ht; simpa [St.app, St.put, upd, hd.2] using hval
      · simpa [St.app, St.put, upd, ht] using hold
  case rt =>
    intro r x hx
    by_cases hr : r ∈ e.add.map (·.1)
    · obtain ⟨y, hy, rfl⟩ := List.mem_map.1 hr
      have := store_add (s := st.store) (rem := e.rem) hk (r := y.1) (x := y.2) (by simpa using hy)
      simp only [St.app] at hx
      rw [this] at hx
      obtain rfl := Option.some.inj hx
      simp only [hr, if_true]
      exact hnew y.1 y.2 (by simpa using hy)
    · simp only [St.app] at hx
      rw [store_rem hr] at hx
      by_cases hr' : r ∈ e.rem
      · simp [hr'] at hx
      · simp only [hr', if_false] at hx
        obtain ⟨k, h1, h2, h3⟩ := h.rt r x hx
        refine ⟨k, hσ _ _ h1, ?_, h3⟩
        simp only [hr, hr', if_false]
        exact V.mono hR hσ hw _ _ _ (hwf r hr' hr) h2
  case nn =>
    intro r hx
    by_cases hr : r ∈ e.add.map (·.1)
    · obtain ⟨y, hy, rfl⟩ := List.mem_map.1 hr
      have := store_add (s := st.store) (rem := e.rem) hk (r := y.1) (x := y.2) (by simpa using hy)
      simp only [St.app] at hx
      rw [this] at hx
      cases hx
    · simp only [St.app] at hx
      rw [store_rem hr] at hx
      simp only [hr, if_false]
      by_cases hr' : r ∈ e.rem
      · simp [hr']
      · simp only [hr', if_false] at hx ⊢
        exact h.nn r hx
  case nd =>
    intro r
    split
    · rename_i hr
      exact (nodup_flat hnd).1 r hr
    · split
      · exact List.nodup_nil
      · exact h.nd r
  case dj =>
    intro r s hrs b hb
    have hold : ∀ r, r ∉ e.add.map (·.1) → r ∉ e.rem → ∀ b ∈ fps r, ∀ q ∈ e.add.map (·.1), b ∉ fpN q := by
      intro r h1 h2 b hb q hq hbq
      rcases (hfb q hq b hbq).2.2 with ⟨x, hx, hbx⟩ | hge
      · have hne : r ≠ x := by rintro rfl; rcases List.mem_append.1 hx with hx | hx <;> contradiction
        exact h.dj r x hne b hb hbx
      · have := (h.fb r b hb).1; omega
    by_cases hr : r ∈ e.add.map (·.1)
    · simp only [hr, if_true] at hb
      by_cases hs : s ∈ e.add.map (·.1)
      · simp only [hs, if_true]
        exact (nodup_flat hnd).2 r hr s hs hrs b hb
      · simp only [hs, if_false]
        split
        · simp
        · rename_i hs'
          exact fun hbs => hold s hs hs' b hbs r hr hb
    · simp only [hr, if_false] at hb
      by_cases hr' : r ∈ e.rem
      · simp [hr'] at hb
      · simp only [hr', if_false] at hb
        by_cases hs : s ∈ e.add.map (·.1)
        · simp only [hs, if_true]; exact hold r hr hr' b hb s hs
        · simp only [hs, if_false]
          split
          · simp
          · exact h.dj r s hrs b hb
  case fb =>
    intro r b hb
    by_cases hr : r ∈ e.add.map (·.1)
    · simp only [hr, if_true] at hb
      obtain ⟨h1, h2, h3⟩ := hfb r hr b hb
      refine ⟨h1, h2, ?_⟩
      rcases h3 with h3 | h3
      · exact hX b h3
      · have := h.sz; exact .inr (by omega)
    · simp only [hr, if_false] at hb
      by_cases hr' : r ∈ e.rem
      · simp [hr'] at hb
      · simp only [hr', if_false] at hb
        obtain ⟨h1, h2, h3⟩ := h.fb r b hb
        refine ⟨by omega, fun hb' => ?_, h3⟩
        rcases (hR' b hb').2 with h4 | ⟨x, hx, hbx⟩ | h4
        · exact h2 h4
        · have hne : r ≠ x := by rintro rfl; rcases List.mem_append.1 hx with hx | hx <;> contradiction
          exact h.dj r x hne b hb hbx
        · omega
  case Rb =>
    intro b hb
    obtain ⟨h1, h2⟩ := hR' b hb
    refine ⟨h1, ?_⟩
    rcases h2 with h2 | h2 | h2
    · exact (h.Rb b h2).2
    · exact .inr (hX b h2)
    · have := h.sz; exact .inr (.inr (by omega))
  case fr =>
    intro r hr
    simp only [St.app]
    have hna : r ∉ e.add.map (·.1) := fun hm => by
      rcases hlt r hm with ⟨k, hk⟩ | hk
      · rw [(h.fr r hr.1).1] at hk; cases hk
      · exact hr.2 hk
    refine ⟨hfr r hr, ?_⟩
    rw [store_rem hna]
    split
    · rfl
    · exact (h.fr r hr.1).2
  case nt => cases dst <;> simp [Act.put, h.nt]
  case df => cases dst <;> simp [Act.put, h.df]

/-- A step that yields a value, and changes nothing else. -/
theorem Rel.value (h : Rel w0 R0 F0 gh G n Fr R σ fps st a w) {dst : Option Nat} {v : PV} {u : Value} (hd : dstOk n dst) (hval : V w R σ v u []) :
    Rel w0 R0 F0 gh G n (frA Fr st.next st.next) R σ fps (st.app dst ⟨v, [], [], st.next⟩) (a.put dst u) w := by
  have := h.change (w' := w) (R' := R) (σ' := σ) (e := ⟨v, [], [], st.next⟩) (dst := dst) (u := u) hd (fun _ => []) (by simp) (fun _ h => h) (fun b hb => ⟨(h.Rb b hb).1, .inl hb⟩) (Le.refl _) (fun _ _ => rfl) (fun _ _ _ _ _ => rfl) (by simp) (by simp) (by simp) (fun _ _ _ => rfl) (Nat.le_refl _) rfl rfl rfl (fun r hr => (h.fr r hr.1).1) (by simp) hval
  simpa using this
end change

/-! ### Looking into values -/
section look
variable {w : World} {R : Nat → Prop} {σ : Nat → Option Hd}
theorem Cs.length : ∀ {cs : List PV} {us : List Value} {fp : List Nat}, Cs w R σ cs us fp → us.length = cs.length
  | [], us, fp, h => by simp only [Cs] at h; simp [h.1]
  | c :: cs, us, fp, h => by
    simp only [Cs] at h
    obtain ⟨u, us', f1, f2, rfl, _, _, h2, _⟩ := h
    simp [Cs.length h2]
theorem Cs.one : ∀ {cs : List PV} {us : List Value} {fp : List Nat}, Cs w R σ cs us fp → ∀ u ∈ us, u.oneCell' = true
  | [], us, fp, h => by simp only [Cs] at h; simp [h.1]
  | c :: cs, us, fp, h => by
    simp only [Cs] at h
    obtain ⟨u, us', f1, f2, rfl, h1, _, h2, _⟩ := h
    intro x hx
    rcases List.mem_cons.1 hx with rfl | hx
    · exact h1
    · exact Cs.one h2 x hx
theorem Cs.append : ∀ {cs ds : List PV} {us : List Value} {fp : List Nat}, Cs w R σ (cs ++ ds) us fp ↔ ∃ u1 u2 f1 f2, us = u1 ++ u2 ∧ fp = f1 ++ f2 ∧ Cs w R σ cs u1 f1 ∧ Cs w R σ ds u2 f2
  | [], ds, us, fp => by
    constructor
    · intro h; exact ⟨[], us, [], fp, rfl, rfl, by simp [Cs], h⟩
    · rintro ⟨u1, u2, f1, f2, rfl, rfl, h1, h2⟩
      simp only [Cs] at h1
      obtain ⟨rfl, rfl⟩ := h1
      simpa using h2
  | c :: cs, ds, us, fp => by
    simp only [List.cons_append, Cs]
    constructor
    · rintro ⟨u, us', f1, f2, rfl, h0, h1, h2, rfl⟩
      obtain ⟨u1, u2, g1, g2, rfl, rfl, h3, h4⟩ := Cs.append.1 h2
      exact ⟨u :: u1, u2, f1 ++ g1, g2, by simp, by simp, ⟨u, u1, f1, g1, rfl, h0, h1, h3, rfl⟩, h4⟩
    · rintro ⟨u1, u2, f1, f2, rfl, rfl, ⟨u, us', g1, g2, rfl, h0, h1, h3, rfl⟩, h4⟩
      exact ⟨u, us' ++ u2, g1, g2 ++ f2, by simp, h0, h1, Cs.append.2 ⟨us', u2, g2, f2, rfl, rfl, h3, h4⟩, by simp⟩
theorem Es.length : ∀ {sz : Nat} {es : List PV} {us : List Value} {fp : List Nat}, Es w R σ sz es us fp → us.length = es.length * sz
  | sz, [], us, fp, h => by simp only [Es] at h; simp [h.1]
  | sz, e :: es, us, fp, h => by
    simp only [Es] at h
    obtain ⟨v, us', f1, f2, rfl, hs, _, _, _, h2, _⟩ := h
    simp [Es.length h2, hs, Nat.add_mul]; omega
theorem Es.one : ∀ {sz : Nat} {es : List PV} {us : List Value} {fp : List Nat}, Es w R σ sz es us fp → ∀ u ∈ us, u.oneCell' = true
  | sz, [], us, fp, h => by simp only [Es] at h; simp [h.1]
  | sz, e :: es, us, fp, h => by
    simp only [Es] at h
    obtain ⟨v, us', f1, f2, rfl, _, h1, _, _, h2, _⟩ := h
    intro x hx
    rcases List.mem_append.1 hx with hx | hx
    · exact h1 x (by simpa using hx)
    · exact Es.one h2 x hx
theorem Es.append : ∀ {sz : Nat} {cs ds : List PV} {us : List Value} {fp : List Nat}, Es w R σ sz (cs ++ ds) us fp ↔ ∃ u1 u2 f1 f2, us = u1 ++ u2 ∧ fp = f1 ++ f2 ∧ Es w R σ sz cs u1 f1 ∧ Es w R σ sz ds u2 f2
  | sz, [], ds, us, fp => by
    constructor
    · intro h; exact ⟨[], us, [], fp, rfl, rfl, by simp [Es], h⟩
    · rintro ⟨u1, u2, f1, f2, rfl, rfl, h1, h2⟩
      simp only [Es] at h1
      obtain ⟨rfl, rfl⟩ := h1
      simpa using h2
  | sz, c :: cs, ds, us, fp => by
    simp only [List.cons_append, Es]
    constructor
    · rintro ⟨v, us', f1, f2, rfl, hs, h0, hu, h1, h2, rfl⟩
      obtain ⟨u1, u2, g1, g2, rfl, rfl, h3, h4⟩ := Es.append.1 h2
      exact ⟨v.cells.toList ++ u1, u2, f1 ++ g1, g2, by simp, by simp, ⟨v, u1, f1, g1, rfl, hs, h0, hu, h1, h3, rfl⟩, h4⟩
    · rintro ⟨u1, u2, f1, f2, rfl, rfl, ⟨v, us', g1, g2, rfl, hs, h0, hu, h1, h3, rfl⟩, h4⟩
      exact ⟨v, us' ++ u2, g1, g2 ++ f2, by simp, hs, h0, hu, h1, Es.append.2 ⟨us', u2, g2, f2, rfl, rfl, h3, h4⟩, by simp⟩
/-- A cell among cells. -/
theorem Cs.at {cs : List PV} {us : List Value} {fp : List Nat} (h : Cs w R σ cs us fp) {k : Nat} {c : PV} (hc : cs[k]? = some c) : ∃ u f, us[k]? = some u ∧ u.oneCell' = true ∧ V w R σ c u f ∧ (∀ b ∈ f, b ∈ fp) := by
  obtain ⟨hk, rfl⟩ := List.getElem?_eq_some_iff.1 hc
  have hsplit : cs = cs.take k ++ cs[k] :: cs.drop (k + 1) := by rw [List.getElem_cons_drop, List.take_append_drop]
  rw [hsplit] at h
  obtain ⟨u1, u2, f1, f2, rfl, rfl, h1, h2⟩ := Cs.append.1 h
  simp only [Cs] at h2
  obtain ⟨u, us', g1, g2, rfl, h0, hv, _, rfl⟩ := h2
  have hl : u1.length = k := by rw [h1.length]; simp; omega
  exact ⟨u, g1, by rw [List.getElem?_append_right (by omega)]; simp [hl], h0, hv, fun b hb => by simp [hb]⟩
/-- An element among elements. -/
theorem Es.at {sz : Nat} {es : List PV} {us : List Value} {fp : List Nat} (h : Es w R σ sz es us fp) {k : Nat} {e : PV} (he : es[k]? = some e) :
    ∃ u1 v u2 f1 f f2, us = u1 ++ v.cells.toList ++ u2 ∧ u1.length = k * sz ∧ v.cells.size = sz ∧ (∀ u ∈ v.cells, u.oneCell' = true) ∧ e ≠ .undef ∧ V w R σ e v f ∧ fp = f1 ++ f ++ f2 ∧
      Es w R σ sz (es.take k) u1 f1 ∧ Es w R σ sz (es.drop (k + 1)) u2 f2 := by
  obtain ⟨hk, rfl⟩ := List.getElem?_eq_some_iff.1 he
  have hsplit : es = es.take k ++ es[k] :: es.drop (k + 1) := by rw [List.getElem_cons_drop, List.take_append_drop]
  have h' := h
  rw [hsplit] at h'
  obtain ⟨u1, u2, f1, f2, rfl, rfl, h1, h2⟩ := Es.append.1 h'
  simp only [Es] at h2
  obtain ⟨v, us', g1, g2, rfl, hs, h0, hu, hv, h3, rfl⟩ := h2
  exact ⟨u1, v, us', f1, g1, g2, by simp, by rw [h1.length, List.length_take, Nat.min_eq_left (Nat.le_of_lt hk)], hs, h0, hu, hv, by simp, h1, h3⟩
/-- The cells of a value. -/
theorem V.cellsOf {e : PV} {v : Value} {fp : List Nat} (h : V w R σ e v fp) (hone : ∀ u ∈ v.cells, u.oneCell' = true) (hu : e ≠ .undef) : Cs w R σ e.cells v.cells.toList fp := by
  cases e with
  | agg cs => simp only [V] at h; obtain ⟨us, rfl, h⟩ := h; simpa [Value.cells, PV.cells] using h
  | undef => exact absurd rfl hu
  | tup vs =>
    simp only [V] at h
    obtain ⟨us, rfl, h⟩ := h
    have := hone (.tuple us.toArray) (by simp [Value.cells])
    simp [Value.oneCell'] at this
  | void =>
    simp only [V] at h
    obtain ⟨rfl, h⟩ := h
    have := hone (.tuple #[]) (by simp [Value.cells])
    simp [Value.oneCell'] at this
  | _ =>
    have hv : v.cells = #[v] := by
      simp only [V] at h
      cases v <;> first | rfl | (exfalso; simp_all [Value.oneCell', Row]; done) | (exfalso; obtain ⟨us, fp', h, _⟩ := h; simp_all [Row]; done) | (exfalso; obtain ⟨h1, h2, h3⟩ := h; rw [← h1] at h2; simp [Value.oneCell'] at h2; done) | (exfalso; obtain ⟨rfl, h2, h3⟩ := h; simp [Value.oneCell'] at h2; done)
    simp only [PV.cells, hv, List.toList_toArray, Cs]
    exact ⟨v, [], fp, [], rfl, hone v (by simp [hv]), h, by simp [Cs], by simp⟩
end look

end Go.Proofs.YtanbccpabgcmaaaGreatDoor.PVE
