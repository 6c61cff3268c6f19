/- The PV engine, part 11: slices of slices, conversions, addresses; all operations together. -/
import Derived.Test.YtanbccpabgcmaaaGreatDoorE10
set_option linter.unusedVariables false
set_option linter.unusedSimpArgs false
set_option linter.unusedSectionVars false
namespace Go.Proofs.YtanbccpabgcmaaaGreatDoor.PVE
open PV

section
variable {P : Program} {E : Env} {w0 : World} {R0 : Nat → Prop} {F0 : List Nat} {gh : Nat → Value} {n : Nat} {Fr : Nat → Prop} {R : Nat → Prop} {σ : Nat → Option Hd} {fps : Nat → List Nat} {st : St} {a : Act} {w : World}

/-- What is owned, only read from now on. -/
def addR (R : Nat → Prop) (f : List Nat) : Nat → Prop := fun b => R b ∨ b ∈ f
mutual
theorem strip_V : ∀ (pv : PV) (v : Value) (f : List Nat), V w R σ pv v f → V w (addR R f) σ pv.strip v []
  | .undef, _, _, h => by simp [PV.strip, V]
  | .void, _, _, h => by simp only [PV.strip, V] at *; exact ⟨h.1, trivial⟩
  | .bool _, _, _, h => by simp only [PV.strip, V] at *; exact ⟨h.1, trivial⟩
  | .int _ _, _, _, h => by simp only [PV.strip, V] at *; exact ⟨h.1, trivial⟩
  | .str _, _, _, h => by simp only [PV.strip, V] at *; exact ⟨h.1, trivial⟩
  | .lit _, _, _, h => by simp only [PV.strip, V] at *; exact ⟨h.1, h.2.1, trivial⟩
  | .ifc, _, _, h => by simp only [PV.strip, V] at *; exact ⟨h.1, trivial⟩
  | .nilS, v, f, h => by
    simp only [PV.strip, V] at *
    exact ⟨trivial, none, 0, [], 0, h.1, by simp, by simp, by simp, by simp [Es]⟩
  | .sl es, v, f, h => V.mono (fun b hb => .inl hb) (Le.refl _) (fun _ _ => rfl) _ _ _ (by simp) (by
      have : f = [] := by simp only [V] at h; exact h.1
      subst this; simpa [PV.strip] using h)
  | .pro cs, v, f, h => V.mono (fun b hb => .inl hb) (Le.refl _) (fun _ _ => rfl) _ _ _ (by simp) (by
      have : f = [] := by simp only [V] at h; exact h.1
      subst this; simpa [PV.strip] using h)
  | .own r, v, f, h => by simp only [PV.strip, V] at *; exact ⟨trivial, h.2⟩
  | .addr r i o, v, f, h => by simp only [PV.strip, V] at *; exact ⟨trivial, h.2⟩
  | .vw r a b, v, f, h => by simp only [PV.strip, V] at *; exact ⟨trivial, h.2⟩
  | .fn g caps, v, f, h => V.mono (fun b hb => .inl hb) (Le.refl _) (fun _ _ => rfl) _ _ _ (by simp) (by
      have : f = [] := by simp only [V] at h; obtain ⟨us, _, h, _⟩ := h; exact h
      subst this; simpa [PV.strip] using h)
  | .slo sz es, v, f, h => by
    simp only [PV.strip, V] at *
    obtain ⟨us, fp', hrow, hes, rfl⟩ := h
    obtain ⟨A, c, rfl, h1, h2⟩ := hrow.form
    have hes' := strip_Es sz es us fp' hes
    have hlen : (stripL es).length = es.length := by rw [stripL_eq]; simp
    refine ⟨trivial, A, c, us, sz, by rw [hlen], by rw [hlen]; exact h1, h2, ?_, ?_⟩
    · rw [hlen]
      intro hn
      obtain ⟨ad, hA, hc⟩ := hrow.cells rfl hn
      exact ⟨ad, hA, .inr (by simp [blkOf, hA]), hc⟩
    · exact Es.mono (fun b hb => by rcases hb with hb | hb; exact .inl hb; exact .inr (by simp [hb])) (Le.refl _) (fun _ _ => rfl) _ _ _ _ (by simp) hes'
  | .agg cs, v, f, h => by
    simp only [PV.strip, V] at *
    obtain ⟨us, rfl, h⟩ := h
    exact ⟨us, rfl, strip_Cs cs us f h⟩
  | .pto cs, v, f, h => by
    simp only [PV.strip, V] at *
    obtain ⟨b, us, e, fp', rfl, h1, h2, rfl⟩ := h
    refine ⟨trivial, ⟨b, 0, none⟩, us, rfl, .inr (by simp), ?_, Cs.mono (fun b hb => by rcases hb with hb | hb; exact .inl hb; exact .inr (by simp [hb])) (Le.refl _) (fun _ _ => rfl) _ _ _ (by simp) (strip_Cs cs us fp' h2)⟩
    intro j u hu
    rw [add_lit', cell_of_row w b (0 + j) _ e (0, 0) h1, Nat.zero_add]
    simpa using hu
  | .tup cs, v, f, h => by
    simp only [PV.strip, V] at *
    obtain ⟨us, rfl, h⟩ := h
    exact ⟨us, rfl, strip_Ts cs us f h⟩
theorem strip_Cs : ∀ (cs : List PV) (us : List Value) (f : List Nat), Cs w R σ cs us f → Cs w (addR R f) σ (stripL cs) us []
  | [], us, f, h => by simp only [stripL, Cs] at *; exact ⟨h.1, trivial⟩
  | c :: cs, us, f, h => by
    simp only [stripL, Cs] at *
    obtain ⟨u, us', f1, f2, rfl, ho, h1, h2, rfl⟩ := h
    refine ⟨u, us', [], [], rfl, ho, ?_, ?_, rfl⟩
    · exact V.mono (fun b hb => by rcases hb with hb | hb; exact .inl hb; exact .inr (by simp [hb])) (Le.refl _) (fun _ _ => rfl) _ _ _ (by simp) (strip_V c u f1 h1)
    · exact Cs.mono (fun b hb => by rcases hb with hb | hb; exact .inl hb; exact .inr (by simp [hb])) (Le.refl _) (fun _ _ => rfl) _ _ _ (by simp) (strip_Cs cs us' f2 h2)
theorem strip_Es : ∀ (sz : Nat) (es : List PV) (us : List Value) (f : List Nat), Es w R σ sz es us f → Es w (addR R f) σ sz (stripL es) us []
  | sz, [], us, f, h => by simp only [stripL, Es] at *; exact ⟨h.1, trivial⟩
  | sz, e :: es, us, f, h => by
    simp only [stripL, Es] at *
    obtain ⟨v, us', f1, f2, rfl, hs, h0, hu, h1, h2, rfl⟩ := h
    refine ⟨v, us', [], [], rfl, hs, h0, ?_, ?_, ?_, rfl⟩
    · cases e <;> simp_all [PV.strip]
    · exact V.mono (fun b hb => by rcases hb with hb | hb; exact .inl hb; exact .inr (by simp [hb])) (Le.refl _) (fun _ _ => rfl) _ _ _ (by simp) (strip_V e v f1 h1)
    · exact Es.mono (fun b hb => by rcases hb with hb | hb; exact .inl hb; exact .inr (by simp [hb])) (Le.refl _) (fun _ _ => rfl) _ _ _ _ (by simp) (strip_Es sz es us' f2 h2)
theorem strip_Ts : ∀ (cs : List PV) (us : List Value) (f : List Nat), Ts w R σ cs us f → Ts w (addR R f) σ (stripL cs) us []
  | [], us, f, h => by simp only [stripL, Ts] at *; exact ⟨h.1, trivial⟩
  | c :: cs, us, f, h => by
    simp only [stripL, Ts] at *
    obtain ⟨u, us', f1, f2, rfl, h1, h2, rfl⟩ := h
    refine ⟨u, us', [], [], rfl, ?_, ?_, rfl⟩
    · exact V.mono (fun b hb => by rcases hb with hb | hb; exact .inl hb; exact .inr (by simp [hb])) (Le.refl _) (fun _ _ => rfl) _ _ _ (by simp) (strip_V c u f1 h1)
    · exact Ts.mono (fun b hb => by rcases hb with hb | hb; exact .inl hb; exact .inr (by simp [hb])) (Le.refl _) (fun _ _ => rfl) _ _ _ (by simp) (strip_Ts cs us' f2 h2)
end

theorem isByte_form {e : PV} (h : e.isByte = true) : ∃ n, e = .int .u8 n := by
  cases e with
  | int k n => cases k <;> first | exact ⟨n, rfl⟩ | (simp [PV.isByte] at h)
  | _ => simp [PV.isByte] at h

/-- Roots that are only read from now on. -/
theorem Rel.freeze (h : Rel w0 R0 F0 gh E.G n Fr R σ fps st a w) {dst : Option Nat} (hd : dstOk n dst) {l : List Nat} {val : PV} {u : Value} (hval : V w (addR R (l.flatMap fps)) σ val u []) :
    ∃ R' fps', Rel w0 R0 F0 gh E.G n (frA Fr st.next st.next) R' σ fps' (st.app dst ⟨val, l, [], st.next⟩) (a.put dst u) w := by
  refine ⟨addR R (l.flatMap fps), _, h.change (e := ⟨val, l, [], st.next⟩) hd (fun _ => []) (by simp) (fun b hb => .inl hb) ?_ (Le.refl _) (fun _ _ => rfl) (fun _ _ _ _ _ => rfl) (by simp) (by simp) (by simp) (fun _ _ _ => rfl) (Nat.le_refl _) rfl rfl rfl (fun r hr => (h.fr r hr.1).1) (by simp) hval⟩
  intro b hb
  rcases hb with hb | hb
  · exact ⟨(h.Rb b hb).1, .inl hb⟩
  · obtain ⟨x, hx, hbx⟩ := List.mem_flatMap.1 hb
    exact ⟨(h.fb x b hbx).1, .inr (.inl ⟨x, by simpa using hx, hbx⟩)⟩

theorem frz_sound (h : Rel w0 R0 F0 gh E.G n Fr R σ fps st a w) : ∀ (xs : List PV) (us : List Value) {cs : List PV} {l : List Nat} {add : List (Nat × Root)}, frzCaps st.store xs = some (cs, l, add) → Ts w R σ xs us [] →
    Ts w (addR R (l.flatMap fps)) σ cs us [] ∧ ∀ r x, (r, x) ∈ add → ∃ k, σ r = some k ∧ V w (addR R (l.flatMap fps)) σ x.pv k.hdr [] ∧ RootTy k x.pv
  | [], us, cs, l, add, he, hts => by
    simp only [frzCaps, Option.some.injEq, Prod.mk.injEq] at he
    obtain ⟨rfl, rfl, rfl⟩ := he
    simp only [Ts] at hts ⊢
    exact ⟨⟨hts.1, trivial⟩, by simp⟩
  | x :: xs, us, cs, l, add, he, hts => by
    have up : ∀ (l1 l2 : List Nat) (b : Nat), addR R (l1.flatMap fps) b → addR R ((l2 ++ l1).flatMap fps) b := fun l1 l2 b hb => by
      rcases hb with hb | hb
      · exact .inl hb
      · exact .inr (by rw [List.flatMap_append]; simp [hb])
    simp only [Ts] at hts
    obtain ⟨u, us', f1, f2, rfl, hv, hr, hf⟩ := hts
    obtain ⟨rfl, rfl⟩ : f1 = [] ∧ f2 = [] := by simpa using hf.symm
    have keep : (frzCaps st.store xs).map (fun y => (x :: y.1, y.2)) = some (cs, l, add) → Ts w (addR R (l.flatMap fps)) σ cs (u :: us') [] ∧ ∀ r x, (r, x) ∈ add → ∃ k, σ r = some k ∧ V w (addR R (l.flatMap fps)) σ x.pv k.hdr [] ∧ RootTy k x.pv := by
      intro he
      cases hc : frzCaps st.store xs with
      | none => rw [hc] at he; cases he
      | some y =>
        obtain ⟨c2, l2, a2⟩ := y
        rw [hc] at he
        simp only [Option.map_some, Option.some.injEq, Prod.mk.injEq] at he
        obtain ⟨rfl, rfl, rfl⟩ := he
        obtain ⟨i1, i2⟩ := frz_sound h xs us' hc hr
        refine ⟨?_, i2⟩
        simp only [Ts]
        exact ⟨u, us', [], [], rfl, V.mono (fun b hb => .inl hb) (Le.refl _) (fun _ _ => rfl) _ _ _ (by simp) hv, i1, rfl⟩
    cases x with
    | addr r i off =>
      cases i with
      | succ i => exact keep he
      | zero =>
        cases off with
        | succ off => exact keep he
        | zero =>
          simp only [frzCaps] at he
          split at he
          · rename_i ds l1 c2 l2 a2 hf hc
            simp only [Option.some.injEq, Prod.mk.injEq] at he
            obtain ⟨rfl, rfl, rfl⟩ := he
            obtain ⟨i1, i2⟩ := frz_sound h xs us' hc hr
            obtain ⟨k, f, hk, hV, hty, hp⟩ := fold_sound h 4 r _ _ hf
            have hS : V w (addR R ((l1 ++ l2).flatMap fps)) σ (.pro (stripL ds)) k.hdr [] := V.mono (R := addR R f) (fun b hb => by
              rcases hb with hb | hb
              · exact .inl hb
              · exact .inr (by rw [List.flatMap_append]; exact List.mem_append_left _ (hp.mem_iff.1 hb))) (Le.refl _) (fun _ _ => rfl) _ _ _ (by simp) (by simpa only [PV.strip] using strip_V _ _ _ hV)
            have hhdr : ∃ b, k.hdr = .pointer (some ⟨b, 0, none⟩) := by
              simp only [V] at hV
              obtain ⟨b, _, _, _, hb, _⟩ := hV
              exact ⟨b, hb⟩
            simp only [V] at hv
            obtain ⟨_, k', b, hk', hb, rfl⟩ := hv
            obtain rfl : k = k' := by rw [hk] at hk'; exact Option.some.inj hk'
            obtain ⟨b', hb'⟩ := hhdr
            have hu : (Value.pointer (some ⟨b, 0 * k.sz + 0, none⟩)) = k.hdr := by
              rw [hb'] at hb ⊢
              simp only [blkOf, Option.some.injEq] at hb
              subst hb
              simp
            refine ⟨?_, fun q x hq => ?_⟩
            · simp only [Ts]
              exact ⟨_, us', [], [], rfl, by rw [hu]; exact hS, Ts.mono (up l2 l1) (Le.refl _) (fun _ _ => rfl) _ _ _ (by simp) i1, rfl⟩
            · rcases List.mem_cons.1 hq with hq | hq
              · simp only [Prod.mk.injEq] at hq
                obtain ⟨rfl, rfl⟩ := hq
                exact ⟨k, hk, hS, by simp only [RootTy]; exact ⟨b', hb'⟩⟩
              · obtain ⟨k2, j1, j2, j3⟩ := i2 q x hq
                exact ⟨k2, j1, V.mono (up l2 l1) (Le.refl _) (fun _ _ => rfl) _ _ _ (by simp) j2, j3⟩
          · rename_i ds l1 c2 l2 a2 hf hc
            simp only [Option.some.injEq, Prod.mk.injEq] at he
            obtain ⟨rfl, rfl, rfl⟩ := he
            obtain ⟨i1, i2⟩ := frz_sound h xs us' hc hr
            obtain ⟨k, f, hk, hV, hty, hp⟩ := fold_sound h 4 r _ _ hf
            have hf0 : f = [] := by simp only [V] at hV; exact hV.1
            subst hf0
            simp only [RootTy] at hty
            obtain ⟨b', hb'⟩ := hty
            simp only [V] at hv
            obtain ⟨_, k', b, hk', hb, rfl⟩ := hv
            obtain rfl : k = k' := by rw [hk] at hk'; exact Option.some.inj hk'
            have hu : (Value.pointer (some ⟨b, 0 * k.sz + 0, none⟩)) = k.hdr := by
              rw [hb'] at hb ⊢
              simp only [blkOf, Option.some.injEq] at hb
              subst hb
              simp
            refine ⟨?_, i2⟩
            simp only [Ts]
            exact ⟨_, us', [], [], rfl, by rw [hu]; exact V.mono (fun b hb => .inl hb) (Le.refl _) (fun _ _ => rfl) _ _ _ (by simp) hV, i1, rfl⟩
          · cases he
    | _ => exact keep he

theorem run_bounds {isS : Bool} {len cap : Nat} {lo hi : Option Value} {x y : Int} (hx : (lo = none ∧ x = 0) ∨ ∃ k, lo = some (.int k x)) (hy : (hi = none ∧ y = len) ∨ ∃ k, hi = some (.int k y)) (h0 : 0 ≤ x) (h1 : x ≤ y) (h2 : y ≤ len) (h3 : len ≤ cap) (w : World) :
    (Instr.sliceBounds isS len cap lo hi none).run P w = .ok (x.toNat, y.toNat, cap) w := by
  have hc : y ≤ cap := by omega
  rcases hx with ⟨rfl, rfl⟩ | ⟨k, rfl⟩ <;> rcases hy with ⟨rfl, rfl⟩ | ⟨k', rfl⟩
  · simp [Instr.sliceBounds]
  · simp [Instr.sliceBounds, Instr.sliceBound, asIntOf, h1, hc]
  · simp [Instr.sliceBounds, Instr.sliceBound, asIntOf, h0, h2, h1]
  · have e : ((y.toNat : Nat) : Int) = y := Int.toNat_of_nonneg (by omega)
    simp [Instr.sliceBounds, Instr.sliceBound, asIntOf, h0, hc, e, h1, (by omega : 0 ≤ y)]

def OptV (w : World) (R : Nat → Prop) (σ : Nat → Option Hd) : Option PV → Option Value → Prop
  | none, none => True
  | some p, some u => V w R σ p u []
  | _, _ => False
theorem lo_val {x : Option PV} {v : Option Value} {i : Int} (hx : loOf x = some i) (hv : OptV w R σ x v) : (v = none ∧ i = 0) ∨ ∃ k, v = some (.int k i) := by
  cases x with
  | none =>
    simp only [loOf, Option.some.injEq] at hx
    cases v with
    | none => exact .inl ⟨rfl, hx.symm⟩
    | some u => exact hv.elim
  | some p =>
    cases v with
    | none => exact hv.elim
    | some u =>
      cases p <;> simp [loOf] at hx
      simp only [OptV, V] at hv
      obtain ⟨rfl, _⟩ := hv
      exact .inr ⟨_, by rw [hx]⟩
theorem hi_val {x : Option PV} {v : Option Value} {i : Int} {len : Nat} (hx : hiOf len x = some i) (hv : OptV w R σ x v) : (v = none ∧ i = len) ∨ ∃ k, v = some (.int k i) := by
  cases x with
  | none =>
    simp only [hiOf, Option.some.injEq] at hx
    cases v with
    | none => exact .inl ⟨rfl, hx.symm⟩
    | some u => exact hv.elim
  | some p =>
    cases v with
    | none => exact hv.elim
    | some u =>
      cases p <;> simp [hiOf] at hx
      simp only [OptV, V] at hv
      obtain ⟨rfl, _⟩ := hv
      exact .inr ⟨_, by rw [hx]⟩
theorem opt_V (h : Rel w0 R0 F0 gh E.G n Fr R σ fps st a w) (x : Option Operand) : OptV w R σ (x.map (ev E st)) (x.map a.eval) := by
  cases x with
  | none => trivial
  | some x => exact ev_V h x

theorem cut_len {α : Type} (l : List α) {x y : Int} (h0 : 0 ≤ x) (h1 : x ≤ y) (h2 : y ≤ l.length) : (cut l x y).length = y.toNat - x.toNat := by
  unfold cut; simp; omega
theorem Es.cut_ {sz : Nat} {es : List PV} {us : List Value} {f : List Nat} (h : Es w R σ sz es us f) (x y : Nat) (hf : f = []) : Es w R σ sz ((es.drop x).take (y - x)) ((us.drop (x * sz)).take ((y - x) * sz)) [] := by
  subst hf
  have hdrop : ∀ (es : List PV) (us : List Value) (x : Nat), Es w R σ sz es us [] → Es w R σ sz (es.drop x) (us.drop (x * sz)) [] := by
    intro es us x h
    by_cases hx : x ≤ es.length
    · have hs : es = es.take x ++ es.drop x := (List.take_append_drop _ _).symm
      rw [hs] at h
      obtain ⟨u1, u2, f1, f2, rfl, hf, h1, h2⟩ := Es.append.1 h
      obtain ⟨rfl, rfl⟩ : f1 = [] ∧ f2 = [] := by simpa using hf.symm
      have hl : u1.length = x * sz := by rw [h1.length, List.length_take, Nat.min_eq_left hx]
      rw [← hl, List.drop_left' rfl]
      exact h2
    · rw [List.drop_eq_nil_of_le (by omega), List.drop_eq_nil_of_le (by rw [h.length]; exact Nat.mul_le_mul_right _ (by omega))]; simp [Es]
  have htake : ∀ (es : List PV) (us : List Value) (x : Nat), Es w R σ sz es us [] → Es w R σ sz (es.take x) (us.take (x * sz)) [] := by
    intro es us x h
    by_cases hx : x ≤ es.length
    · have hs : es = es.take x ++ es.drop x := (List.take_append_drop _ _).symm
      rw [hs] at h
      obtain ⟨u1, u2, f1, f2, rfl, hf, h1, h2⟩ := Es.append.1 h
      obtain ⟨rfl, rfl⟩ : f1 = [] ∧ f2 = [] := by simpa using hf.symm
      have hl : u1.length = x * sz := by rw [h1.length, List.length_take, Nat.min_eq_left hx]
      rw [← hl, List.take_left' rfl]
      exact h1
    · rw [List.take_of_length_le (by omega), List.take_of_length_le (by rw [h.length]; exact Nat.mul_le_mul_right _ (by omega))]; exact h
  exact htake _ _ _ (hdrop _ _ _ h)

/-- A slice of a slice that is only read. -/
theorem sl_cut {es : List PV} {A : Option Addr} {cap : Nat} {x y : Int} (h0 : 0 ≤ x) (h1 : x ≤ y) (h2 : y ≤ es.length) (hv : V w R σ (.sl es) (.slice A es.length cap) []) {el sz : Nat} (hsz : ∀ e ∈ es, e.cells.length = sz) :
    V w R σ (.sl (cut es x y)) (.slice (if cap = x.toNat then A else A.map (·.add (x.toNat * sz))) (y.toNat - x.toNat) (cap - x.toNat)) [] := by
  simp only [V] at hv ⊢
  obtain ⟨_, A', cap', us, sz', he, k1, k2, k3, k4⟩ := hv
  simp only [Value.slice.injEq] at he
  obtain ⟨rfl, _, rfl⟩ := he
  have k4' := Es.resize hsz k4
  have hl := cut_len es h0 h1 h2
  refine ⟨trivial, _, cap - x.toNat, (us.drop (x.toNat * sz)).take ((y.toNat - x.toNat) * sz), sz, by rw [hl], by rw [hl]; omega, by omega, ?_, k4'.cut_ _ _ rfl⟩
  intro hn
  rw [hl] at hn
  obtain ⟨ad, rfl, hR, hc⟩ := k3 (by omega)
  rw [if_neg (by omega)]
  refine ⟨_, rfl, by rw [add_block]; exact hR, fun j u hu => ?_⟩
  rw [List.getElem?_take] at hu
  split at hu
  · rw [List.getElem?_drop] at hu
    rw [add_add']; exact hc _ u hu
  · cases hu

end
end Go.Proofs.YtanbccpabgcmaaaGreatDoor.PVE
