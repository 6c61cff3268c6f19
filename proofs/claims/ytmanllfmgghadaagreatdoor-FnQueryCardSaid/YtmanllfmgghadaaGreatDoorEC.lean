/- The PV engine, part 11: slices of slices, conversions, addresses; all operations together. -/
import Derived.Test.YtmanllfmgghadaaGreatDoorEB
import Derived.MapKept
import Derived.Laws.IdiomRangeMap
set_option linter.unusedVariables false
set_option linter.unusedSimpArgs false
set_option linter.unusedSectionVars false
namespace Go.Proofs.YtmanllfmgghadaaGreatDoor.PVE
open PV
section
variable {P : Program} {E : Env} {w0 : World} {R0 : Nat → Prop} {F0 : List Nat} {gh : Nat → Value} {n : Nat} {Fr : Nat → Prop} {R : Nat → Prop} {σ : Nat → Option Hd} {fps : Nat → List Nat} {st : St} {a : Act} {w : World} [Dm]
def addR (R : Nat → Prop) (f : List Nat) : Nat → Prop := fun b => R b ∨ b ∈ f
mutual
theorem strip_V : ∀ (pv : PV) (v : Value) (f : List Nat), V w R σ pv v f → V w (addR R f) σ pv.strip v []
  | .undef, _, _, h => by simp [PV.strip, V]
  | .void, _, _, h => by simp only [PV.strip, V] at *; exact ⟨h.1, trivial⟩
  | .bool _, _, _, h => by simp only [PV.strip, V] at *; exact ⟨h.1, trivial⟩
  | .int _ _, _, _, h => by simp only [PV.strip, V] at *; exact ⟨h.1, trivial⟩
  | .str _, _, _, h => by simp only [PV.strip, V] at *; exact ⟨h.1, trivial⟩
  | .lit _, _, _, h => by simp only [PV.strip, V] at *; exact ⟨h.1, h.2.1, trivial⟩
  | .ifc, _, _, h => by simp only [PV.strip, V] at *; exact ⟨h.1, trivial⟩
  | .any, _, _, h => by simp only [PV.strip, V] at *; exact ⟨h.1, trivial⟩
  | .mp it es, v, f, h => by
    simp only [PV.strip, V] at *
    obtain ⟨bs, os, fp', h1, _⟩ := h
    exact ⟨h1.one, trivial⟩
  | .nilS, v, f, h => by
    simp only [PV.strip, V] at *
    exact ⟨trivial, none, 0, [], 0, h.1, by simp, by simp, by simp, by simp [Es]⟩
  | .sl es, v, f, h => V.mono (fun b hb => .inl hb) (Le.refl _) (fun _ _ => rfl) _ _ _ (by simp) (by
      have : f = [] := by simp only [V] at h; exact h.1
      subst this; simpa [PV.strip] using h)
  | .pro cs, v, f, h => V.mono (fun b hb => .inl hb) (Le.refl _) (fun _ _ => rfl) _ _ _ (by simp) (by
      have : f = [] := by simp only [V] at h; exact h.1
      subst this; simpa [PV.strip] using h)
  | .own r, v, f, h => by simp only [PV.strip, V] at *; exact ⟨trivial, h.2⟩
  | .addr r i o, v, f, h => by simp only [PV.strip, V] at *; exact ⟨trivial, h.2⟩
  | .vw r a b, v, f, h => by simp only [PV.strip, V] at *; exact ⟨trivial, h.2⟩
  | .fn g caps, v, f, h => V.mono (fun b hb => .inl hb) (Le.refl _) (fun _ _ => rfl) _ _ _ (by simp) (by
      have : f = [] := by simp only [V] at h; obtain ⟨us, _, h, _⟩ := h; exact h
      subst this; simpa [PV.strip] using h)
  | .slo sz es, v, f, h => by
    simp only [PV.strip, V] at *
    obtain ⟨us, fp', hrow, hes, rfl⟩ := h
    obtain ⟨A, c, rfl, h1, h2⟩ := hrow.form
    have hes' := strip_Es sz es us fp' hes
    have hlen : (stripL es).length = es.length := by rw [stripL_eq]; simp
    refine ⟨trivial, A, c, us, sz, by rw [hlen], by rw [hlen]; exact h1, h2, ?_, ?_⟩
    · rw [hlen]
      intro hn
      obtain ⟨ad, hA, hc⟩ := hrow.cells rfl hn
      exact ⟨ad, hA, .inr (by simp [blkOf, hA]), hc⟩
    · exact Es.mono (fun b hb => by rcases hb with hb | hb; exact .inl hb; exact .inr (by simp [hb])) (Le.refl _) (fun _ _ => rfl) _ _ _ _ (by simp) hes'
  | .agg cs, v, f, h => by
    simp only [PV.strip, V] at *
    obtain ⟨us, rfl, h⟩ := h
    exact ⟨us, rfl, strip_Cs cs us f h⟩
  | .pto cs, v, f, h => by
    simp only [PV.strip, V] at *
    obtain ⟨b, us, e, fp', rfl, h1, h2, rfl⟩ := h
    refine ⟨trivial, ⟨b, 0, none⟩, us, rfl, .inr (by simp), ?_, Cs.mono (fun b hb => by rcases hb with hb | hb; exact .inl hb; exact .inr (by simp [hb])) (Le.refl _) (fun _ _ => rfl) _ _ _ (by simp) (strip_Cs cs us fp' h2)⟩
    intro j u hu
    rw [add_lit', cell_of_row w b (0 + j) _ e (0, 0) h1, Nat.zero_add]
    simpa using hu
  | .tup cs, v, f, h => by
    simp only [PV.strip, V] at *
    obtain ⟨us, rfl, h⟩ := h
    exact ⟨us, rfl, strip_Ts cs us f h⟩
theorem strip_Cs : ∀ (cs : List PV) (us : List Value) (f : List Nat), Cs w R σ cs us f → Cs w (addR R f) σ (stripL cs) us []
  | [], us, f, h => by simp only [stripL, Cs] at *; exact ⟨h.1, trivial⟩
  | c :: cs, us, f, h => by
    simp only [stripL, Cs] at *
    obtain ⟨u, us', f1, f2, rfl, ho, h1, h2, rfl⟩ := h
    refine ⟨u, us', [], [], rfl, ho, ?_, ?_, rfl⟩
    · exact V.mono (fun b hb => by rcases hb with hb | hb; exact .inl hb; exact .inr (by simp [hb])) (Le.refl _) (fun _ _ => rfl) _ _ _ (by simp) (strip_V c u f1 h1)
    · exact Cs.mono (fun b hb => by rcases hb with hb | hb; exact .inl hb; exact .inr (by simp [hb])) (Le.refl _) (fun _ _ => rfl) _ _ _ (by simp) (strip_Cs cs us' f2 h2)
theorem strip_Es : ∀ (sz : Nat) (es : List PV) (us : List Value) (f : List Nat), Es w R σ sz es us f → Es w (addR R f) σ sz (stripL es) us []
  | sz, [], us, f, h => by simp only [stripL, Es] at *; exact ⟨h.1, trivial⟩
  | sz, e :: es, us, f, h => by
    simp only [stripL, Es] at *
    obtain ⟨v, us', f1, f2, rfl, hs, h0, hu, h1, h2, rfl⟩ := h
    refine ⟨v, us', [], [], rfl, hs, h0, ?_, ?_, ?_, rfl⟩
    · cases e <;> simp_all [PV.strip]
    · exact V.mono (fun b hb => by rcases hb with hb | hb; exact .inl hb; exact .inr (by simp [hb])) (Le.refl _) (fun _ _ => rfl) _ _ _ (by simp) (strip_V e v f1 h1)
    · exact Es.mono (fun b hb => by rcases hb with hb | hb; exact .inl hb; exact .inr (by simp [hb])) (Le.refl _) (fun _ _ => rfl) _ _ _ _ (by simp) (strip_Es sz es us' f2 h2)
theorem strip_Ts : ∀ (cs : List PV) (us : List Value) (f : List Nat), Ts w R σ cs us f → Ts w (addR R f) σ (stripL cs) us []
  | [], us, f, h => by simp only [stripL, Ts] at *; exact ⟨h.1, trivial⟩
  | c :: cs, us, f, h => by
    simp only [stripL, Ts] at *
    obtain ⟨u, us', f1, f2, rfl, h1, h2, rfl⟩ := h
    refine ⟨u, us', [], [], rfl, ?_, ?_, rfl⟩
    · exact V.mono (fun b hb => by rcases hb with hb | hb; exact .inl hb; exact .inr (by simp [hb])) (Le.refl _) (fun _ _ => rfl) _ _ _ (by simp) (strip_V c u f1 h1)
    · exact Ts.mono (fun b hb => by rcases hb with hb | hb; exact .inl hb; exact .inr (by simp [hb])) (Le.refl _) (fun _ _ => rfl) _ _ _ (by simp) (strip_Ts cs us' f2 h2)
end
theorem isByte_form {e : PV} (h : e.isByte = true) : ∃ n, e = .int .u8 n := by
  cases e with
  | int k n => cases k <;> first | exact ⟨n, rfl⟩ | (simp [PV.isByte] at h)
  | _ => simp [PV.isByte] at h
theorem frz_sound (h : Rel w0 R0 F0 gh E.G n Fr R σ fps st a w) : ∀ (xs : List PV) (us : List Value) {cs : List PV} {l : List Nat} {add : List (Nat × Root)}, frzCaps st.store xs = some (cs, l, add) → Ts w R σ xs us [] →
    Ts w (addR R (l.flatMap fps)) σ cs us [] ∧ ∀ r x, (r, x) ∈ add → ∃ k, σ r = some k ∧ V w (addR R (l.flatMap fps)) σ x.pv k.hdr [] ∧ RootTy k x.pv
  | [], us, cs, l, add, he, hts => by
    simp only [frzCaps, Option.some.injEq, Prod.mk.injEq] at he
    obtain ⟨rfl, rfl, rfl⟩ := he
    simp only [Ts] at hts ⊢
    exact ⟨⟨hts.1, trivial⟩, by simp⟩
  | x :: xs, us, cs, l, add, he, hts => by
    have up : ∀ (l1 l2 : List Nat) (b : Nat), addR R (l1.flatMap fps) b → addR R ((l2 ++ l1).flatMap fps) b := fun l1 l2 b hb => by
      rcases hb with hb | hb
      · exact .inl hb
      · exact .inr (by rw [List.flatMap_append]; simp [hb])
    simp only [Ts] at hts
    obtain ⟨u, us', f1, f2, rfl, hv, hr, hf⟩ := hts
    obtain ⟨rfl, rfl⟩ : f1 = [] ∧ f2 = [] := by simpa using hf.symm
    have keep : (frzCaps st.store xs).map (fun y => (x :: y.1, y.2)) = some (cs, l, add) → Ts w (addR R (l.flatMap fps)) σ cs (u :: us') [] ∧ ∀ r x, (r, x) ∈ add → ∃ k, σ r = some k ∧ V w (addR R (l.flatMap fps)) σ x.pv k.hdr [] ∧ RootTy k x.pv := by
      intro he
      cases hc : frzCaps st.store xs with
      | none => rw [hc] at he; cases he
      | some y =>
        obtain ⟨c2, l2, a2⟩ := y
        rw [hc] at he
        simp only [Option.map_some, Option.some.injEq, Prod.mk.injEq] at he
        obtain ⟨rfl, rfl, rfl⟩ := he
        obtain ⟨i1, i2⟩ := frz_sound h xs us' hc hr
        refine ⟨?_, i2⟩
        simp only [Ts]
        exact ⟨u, us', [], [], rfl, V.mono (fun b hb => .inl hb) (Le.refl _) (fun _ _ => rfl) _ _ _ (by simp) hv, i1, rfl⟩
    cases x with
    | addr r i off =>
      cases i with
      | succ i => exact keep he
      | zero =>
        cases off with
        | succ off => exact keep he
        | zero =>
          simp only [frzCaps] at he
          split at he
          · rename_i ds l1 c2 l2 a2 hf hc
            simp only [Option.some.injEq, Prod.mk.injEq] at he
            obtain ⟨rfl, rfl, rfl⟩ := he
            obtain ⟨i1, i2⟩ := frz_sound h xs us' hc hr
            obtain ⟨k, f, hk, hV, hty, hp⟩ := fold_sound h 4 r _ _ hf
            have hS : V w (addR R ((l1 ++ l2).flatMap fps)) σ (.pro (stripL ds)) k.hdr [] := V.mono (R := addR R f) (fun b hb => by
              rcases hb with hb | hb
              · exact .inl hb
              · exact .inr (by rw [List.flatMap_append]; exact List.mem_append_left _ (hp.mem_iff.1 hb))) (Le.refl _) (fun _ _ => rfl) _ _ _ (by simp) (by simpa only [PV.strip] using strip_V _ _ _ hV)
            have hhdr : ∃ b, k.hdr = .pointer (some ⟨b, 0, none⟩) := by
              simp only [V] at hV
              obtain ⟨b, _, _, _, hb, _⟩ := hV
              exact ⟨b, hb⟩
            simp only [V] at hv
            obtain ⟨_, k', b, hk', hb, rfl⟩ := hv
            obtain rfl : k = k' := by rw [hk] at hk'; exact Option.some.inj hk'
            obtain ⟨b', hb'⟩ := hhdr
            have hu : (Value.pointer (some ⟨b, 0 * k.sz + 0, none⟩)) = k.hdr := by
              rw [hb'] at hb ⊢
              simp only [blkOf, Option.some.injEq] at hb
              subst hb
              simp
            refine ⟨?_, fun q x hq => ?_⟩
            · simp only [Ts]
              exact ⟨_, us', [], [], rfl, by rw [hu]; exact hS, Ts.mono (up l2 l1) (Le.refl _) (fun _ _ => rfl) _ _ _ (by simp) i1, rfl⟩
            · rcases List.mem_cons.1 hq with hq | hq
              · simp only [Prod.mk.injEq] at hq
                obtain ⟨rfl, rfl⟩ := hq
                exact ⟨k, hk, hS, by simp only [RootTy]; exact ⟨b', hb'⟩⟩
              · obtain ⟨k2, j1, j2, j3⟩ := i2 q x hq
                exact ⟨k2, j1, V.mono (up l2 l1) (Le.refl _) (fun _ _ => rfl) _ _ _ (by simp) j2, j3⟩
          · rename_i ds l1 c2 l2 a2 hf hc
            simp only [Option.some.injEq, Prod.mk.injEq] at he
            obtain ⟨rfl, rfl, rfl⟩ := he
            obtain ⟨i1, i2⟩ := frz_sound h xs us' hc hr
            obtain ⟨k, f, hk, hV, hty, hp⟩ := fold_sound h 4 r _ _ hf
            have hf0 : f = [] := by simp only [V] at hV; exact hV.1
            subst hf0
            simp only [RootTy] at hty
            obtain ⟨b', hb'⟩ := hty
            simp only [V] at hv
            obtain ⟨_, k', b, hk', hb, rfl⟩ := hv
            obtain rfl : k = k' := by rw [hk] at hk'; exact Option.some.inj hk'
            have hu : (Value.pointer (some ⟨b, 0 * k.sz + 0, none⟩)) = k.hdr := by
              rw [hb'] at hb ⊢
              simp only [blkOf, Option.some.injEq] at hb
              subst hb
              simp
            refine ⟨?_, i2⟩
            simp only [Ts]
            exact ⟨_, us', [], [], rfl, by rw [hu]; exact V.mono (fun b hb => .inl hb) (Le.refl _) (fun _ _ => rfl) _ _ _ (by simp) hV, i1, rfl⟩
          · cases he
    | _ => exact keep he
theorem run_bounds {isS : Bool} {len cap : Nat} {lo hi : Option Value} {x y : Int} (hx : (lo = none ∧ x = 0) ∨ ∃ k, lo = some (.int k x)) (hy : (hi = none ∧ y = len) ∨ ∃ k, hi = some (.int k y)) (h0 : 0 ≤ x) (h1 : x ≤ y) (h2 : y ≤ len) (h3 : len ≤ cap) (w : World) :
    (Instr.sliceBounds isS len cap lo hi none).run P w = .ok (x.toNat, y.toNat, cap) w := by
  have hc : y ≤ cap := by omega
  rcases hx with ⟨rfl, rfl⟩ | ⟨k, rfl⟩ <;> rcases hy with ⟨rfl, rfl⟩ | ⟨k', rfl⟩
  · simp [Instr.sliceBounds]
  · simp [Instr.sliceBounds, Instr.sliceBound, asIntOf, h1, hc]
  · simp [Instr.sliceBounds, Instr.sliceBound, asIntOf, h0, h2, h1]
  · have e : ((y.toNat : Nat) : Int) = y := Int.toNat_of_nonneg (by omega)
    simp [Instr.sliceBounds, Instr.sliceBound, asIntOf, h0, hc, e, h1, (by omega : 0 ≤ y)]
def OptV (w : World) (R : Nat → Prop) (σ : Nat → Option Hd) : Option PV → Option Value → Prop
  | none, none => True
  | some p, some u => V w R σ p u []
  | _, _ => False
theorem lo_val {x : Option PV} {v : Option Value} {i : Int} (hx : loOf x = some i) (hv : OptV w R σ x v) : (v = none ∧ i = 0) ∨ ∃ k, v = some (.int k i) := by
  cases x with
  | none =>
    simp only [loOf, Option.some.injEq] at hx
    cases v with
    | none => exact .inl ⟨rfl, hx.symm⟩
    | some u => exact hv.elim
  | some p =>
    cases v with
    | none => exact hv.elim
    | some u =>
      cases p <;> simp [loOf] at hx
      simp only [OptV, V] at hv
      obtain ⟨rfl, _⟩ := hv
      exact .inr ⟨_, by rw [hx]⟩
theorem hi_val {x : Option PV} {v : Option Value} {i : Int} {len : Nat} (hx : hiOf len x = some i) (hv : OptV w R σ x v) : (v = none ∧ i = len) ∨ ∃ k, v = some (.int k i) := by
  cases x with
  | none =>
    simp only [hiOf, Option.some.injEq] at hx
    cases v with
    | none => exact .inl ⟨rfl, hx.symm⟩
    | some u => exact hv.elim
  | some p =>
    cases v with
    | none => exact hv.elim
    | some u =>
      cases p <;> simp [hiOf] at hx
      simp only [OptV, V] at hv
      obtain ⟨rfl, _⟩ := hv
      exact .inr ⟨_, by rw [hx]⟩
theorem opt_V (h : Rel w0 R0 F0 gh E.G n Fr R σ fps st a w) (x : Option Operand) : OptV w R σ (x.map (ev E st)) (x.map a.eval) := by
  cases x with
  | none => trivial
  | some x => exact ev_V h x
theorem cut_len {α : Type} (l : List α) {x y : Int} (h0 : 0 ≤ x) (h1 : x ≤ y) (h2 : y ≤ l.length) : (cut l x y).length = y.toNat - x.toNat := by
  unfold cut; simp; omega
theorem Es.cut_ {sz : Nat} {es : List PV} {us : List Value} {f : List Nat} (h : Es w R σ sz es us f) (x y : Nat) (hf : f = []) : Es w R σ sz ((es.drop x).take (y - x)) ((us.drop (x * sz)).take ((y - x) * sz)) [] := by
  subst hf
  have hdrop : ∀ (es : List PV) (us : List Value) (x : Nat), Es w R σ sz es us [] → Es w R σ sz (es.drop x) (us.drop (x * sz)) [] := by
    intro es us x h
    by_cases hx : x ≤ es.length
    · have hs : es = es.take x ++ es.drop x := (List.take_append_drop _ _).symm
      rw [hs] at h
      obtain ⟨u1, u2, f1, f2, rfl, hf, h1, h2⟩ := Es.append.1 h
      obtain ⟨rfl, rfl⟩ : f1 = [] ∧ f2 = [] := by simpa using hf.symm
      have hl : u1.length = x * sz := by rw [h1.length, List.length_take, Nat.min_eq_left hx]
      rw [← hl, List.drop_left' rfl]
      exact h2
    · rw [List.drop_eq_nil_of_le (by omega), List.drop_eq_nil_of_le (by rw [h.length]; exact Nat.mul_le_mul_right _ (by omega))]; simp [Es]
  have htake : ∀ (es : List PV) (us : List Value) (x : Nat), Es w R σ sz es us [] → Es w R σ sz (es.take x) (us.take (x * sz)) [] := by
    intro es us x h
    by_cases hx : x ≤ es.length
    · have hs : es = es.take x ++ es.drop x := (List.take_append_drop _ _).symm
      rw [hs] at h
      obtain ⟨u1, u2, f1, f2, rfl, hf, h1, h2⟩ := Es.append.1 h
      obtain ⟨rfl, rfl⟩ : f1 = [] ∧ f2 = [] := by simpa using hf.symm
      have hl : u1.length = x * sz := by rw [h1.length, List.length_take, Nat.min_eq_left hx]
      rw [← hl, List.take_left' rfl]
      exact h1
    · rw [List.take_of_length_le (by omega), List.take_of_length_le (by rw [h.length]; exact Nat.mul_le_mul_right _ (by omega))]; exact h
  exact htake _ _ _ (hdrop _ _ _ h)
theorem sl_cut {es : List PV} {A : Option Addr} {cap : Nat} {x y : Int} (h0 : 0 ≤ x) (h1 : x ≤ y) (h2 : y ≤ es.length) (hv : V w R σ (.sl es) (.slice A es.length cap) []) {el sz : Nat} (hsz : ∀ e ∈ es, e.cells.length = sz) :
    V w R σ (.sl (cut es x y)) (.slice (if cap = x.toNat then A else A.map (·.add (x.toNat * sz))) (y.toNat - x.toNat) (cap - x.toNat)) [] := by
  simp only [V] at hv ⊢
  obtain ⟨_, A', cap', us, sz', he, k1, k2, k3, k4⟩ := hv
  simp only [Value.slice.injEq] at he
  obtain ⟨rfl, _, rfl⟩ := he
  have k4' := Es.resize hsz k4
  have hl := cut_len es h0 h1 h2
  refine ⟨trivial, _, cap - x.toNat, (us.drop (x.toNat * sz)).take ((y.toNat - x.toNat) * sz), sz, by rw [hl], by rw [hl]; omega, by omega, ?_, k4'.cut_ _ _ rfl⟩
  intro hn
  rw [hl] at hn
  obtain ⟨ad, rfl, hR, hc⟩ := k3 (by omega)
  rw [if_neg (by omega)]
  refine ⟨_, rfl, by rw [add_block]; exact hR, fun j u hu => ?_⟩
  rw [List.getElem?_take] at hu
  split at hu
  · rw [List.getElem?_drop] at hu
    rw [add_add']; exact hc _ u hu
  · cases hu
end
end Go.Proofs.YtmanllfmgghadaaGreatDoor.PVE
namespace Go.Proofs.YtmanllfmgghadaaGreatDoor.PVE
open PV
section
variable {P : Program} {E : Env} {w0 : World} {R0 : Nat → Prop} {F0 : List Nat} {gh : Nat → Value} {n : Nat} {Fr : Nat → Prop} {R : Nat → Prop} {σ : Nat → Option Hd} {fps : Nat → List Nat} {st : St} {a : Act} {w : World} [Dm]
theorem out_slice (hT : TyOk P E.T) (h : Rel w0 R0 F0 gh E.G n Fr R σ fps st a w) {o : Oper} (hd : dstOk n o.dst) {t : Nat} {x : Operand} {lo hi : Option Operand} (ho : o.op = .slice t x lo hi none) {p : Prop} {e : Eff} (he : eff E st o.op = some (p, e)) (hp : p) : Out P E w0 R0 F0 gh n Fr st o a w e := by
  rw [ho] at he
  simp only [eff] at he
  have hx := ev_V h x
  have hlo := opt_V h lo
  have hhi := opt_V h hi
  split at he
  · -- strings
    rename_i sz b0 z0 hTt
    have ht : P.underlying t = some .string := (hT t _ hTt).1
    cases hev : ev E st x <;> rw [hev] at he hx <;> simp only [sliceStrE] at he <;> try (cases he; done)
    rename_i s
    split at he
    · rename_i aa bb hla hlb
      simp only [Option.some.injEq, Prod.mk.injEq] at he
      obtain ⟨rfl, rfl⟩ := he
      obtain ⟨p0, p1, p2⟩ := hp
      simp only [V] at hx
      have hb := run_bounds (P := P) (isS := false) (len := s.length) (cap := s.length) (lo_val hla hlo) (hi_val hlb hhi) p0 p1 p2 (Nat.le_refl _) w
      refine out_val h hd (u := .string ⟨(cut s aa bb).toArray⟩) (by simp [V]) ?_
      have hsz : (ByteArray.mk s.toArray).size = s.length := by simp [ByteArray.size]
      simp only [execOp, ho, Sem.run_bind, Option.map_none, run_sliceAt_string w t _ _ _ _ ht, hx.1, Instr.slice, run_underlying ht, Result.andThen_ok, hsz, Option.isSome_none, Bool.false_eq_true, if_false, Sem.run_pure, hb, ByteArray.extract_mk]
      rfl
    · cases he
  · -- slices
    rename_i el sz b0 z0 hTt
    have ht : P.underlying t = some (.slice el) := (hT t _ hTt).1
    have htt : P.underlying t = some (.slice (P.elem t)) := by rw [ht]; simp [Program.elem, ht]
    have hel : P.elem t = el := by simp [Program.elem, ht]
    split at he
    case h_2 => cases he
    rename_i i hTe
    obtain ⟨_, ti, z, g1, g2, g3, g4, g5, g6, g7, g8, g9⟩ := hT el i hTe
    have run : ∀ {A : Option Addr} {len cap : Nat} {aa bb : Int}, a.eval x = .slice A len cap → loOf (lo.map (ev E st)) = some aa → hiOf len (hi.map (ev E st)) = some bb → 0 ≤ aa → aa ≤ bb → bb ≤ len → len ≤ cap →
        (execOp a.eval o).run P w = .ok (.value (.slice (if cap = aa.toNat then A else A.map (·.add (aa.toNat * i.size))) (bb.toNat - aa.toNat) (cap - aa.toNat))) w := by
      intro A len cap aa bb hxv hla hlb p0 p1 p2 p3
      have hb := run_bounds (P := P) (isS := true) (len := len) (cap := cap) (lo_val hla hlo) (hi_val hlb hhi) p0 p1 p2 p3 w
      simp only [execOp, ho, Sem.run_bind, Option.map_none, run_sliceAt_slice w t _ _ _ _ htt, hxv, Instr.slice, run_underlying ht, Result.andThen_ok, hb, sizeOf, typeInfo, run_program, g1, Sem.run_pure, g3]
    cases hev : ev E st x <;> rw [hev] at he hx <;> simp only [sliceE] at he <;> try (cases he; done)
    · rename_i es
      split at he
      · rename_i aa bb hla hlb
        simp only [Option.some.injEq, Prod.mk.injEq] at he
        obtain ⟨rfl, rfl⟩ := he
        obtain ⟨p0, p1, p2, p3⟩ := hp
        have hx' := hx
        simp only [V] at hx
        obtain ⟨_, A, cap, us, sz', hxv, k1, k2, _⟩ := hx
        rw [hxv] at hx'
        exact out_val h hd (sl_cut p0 p1 p2 hx' (el := el) p3) (run hxv hla hlb p0 p1 p2 k1)
      · cases he
    · rename_i r
      split at he
      · rename_i sz' es links hr
        split at he
        case isFalse => cases he
        rename_i hsz
        subst hsz
        split at he
        · rename_i aa bb hla hlb
          simp only [Option.some.injEq, Prod.mk.injEq] at he
          obtain ⟨rfl, rfl⟩ := he
          obtain ⟨p0, p1, p2⟩ := hp
          obtain ⟨k, hk, hV, hty⟩ := h.rt r _ hr
          simp only [V] at hx hV
          obtain ⟨_, k', hk', hxv, _⟩ := hx
          obtain rfl : k = k' := by rw [hk] at hk'; exact Option.some.inj hk'
          obtain ⟨us, fp', hrow, hes, hfp⟩ := hV
          obtain ⟨A, cap, hhv, k1, k2⟩ := hrow.form
          simp only [RootTy] at hty
          refine out_val h hd ?_ (run (hxv.trans hhv) hla hlb p0 p1 p2 k1)
          simp only [V]
          refine ⟨trivial, k, A, es.length, cap, _, _, hk, hhv, by omega, by omega, rfl, by omega, by omega, fun hlt => ?_⟩
          rw [if_neg (by omega), hty]
        · cases he
      · cases he
    · rename_i r x0 y0
      split at he
      · rename_i sz' es links hr
        split at he
        case isFalse => cases he
        rename_i hsz
        subst hsz
        split at he
        · rename_i aa bb hla hlb
          simp only [Option.some.injEq, Prod.mk.injEq] at he
          obtain ⟨rfl, rfl⟩ := he
          obtain ⟨p0, p1, p2⟩ := hp
          obtain ⟨k, hk, hV, hty⟩ := h.rt r _ hr
          simp only [V] at hx
          obtain ⟨_, k', A, m, c, B, c', hk', hhv, q1, q2, hxv, q3, q4, q5⟩ := hx
          obtain rfl : k = k' := by rw [hk] at hk'; exact Option.some.inj hk'
          simp only [RootTy] at hty
          refine out_val h hd ?_ (run hxv hla hlb p0 p1 p2 q3)
          simp only [V]
          refine ⟨trivial, k, A, m, c, (if c' = aa.toNat then B else B.map (·.add (aa.toNat * i.size))), c' - aa.toNat, hk, hhv, by omega, by omega, ?_, by omega, by omega, fun hlt => ?_⟩
          · rw [show x0 + bb.toNat - (x0 + aa.toNat) = bb.toNat - aa.toNat by omega]
          · rw [if_neg (by omega), q5 (by omega), hty, Option.map_map]
            congr 1
            funext ad
            simp only [Function.comp_def, add_add', Nat.add_mul]
        · cases he
      · cases he
  · cases he
theorem out_conv (hT : TyOk P E.T) (h : Rel w0 R0 F0 gh E.G n Fr R σ fps st a w) {o : Oper} (hd : dstOk n o.dst) {src dst : Nat} {x : Operand} (ho : o.op = .convert src dst x) {p : Prop} {e : Eff} (he : eff E st o.op = some (p, e)) (hp : p) : Out P E w0 R0 F0 gh n Fr st o a w e := by
  rw [ho] at he
  simp only [eff, convE] at he
  have hx := ev_V h x
  split at he
  case h_2 => cases he
  rename_i ts td hTs hTd
  have hds := (hT src ts hTs).1
  have hdd := (hT dst td hTd).1
  have bytes : ∀ {es : List PV} {us : List Value} {sz el : Nat} {f : List Nat} {A : Option Addr} {cap : Nat} {sz0 b0 : Nat} {z0 : List PV}, P.underlying src = some (.slice el) → P.underlying dst = some .string → E.T el = some ⟨.int .u8, sz0, b0, z0⟩ → Es w R σ sz es us f → (∀ e ∈ es, e.isByte = true) →
      a.eval x = .slice A es.length cap → (0 < es.length → ∃ ad, A = some ad ∧ ∀ j u, us[j]? = some u → w.cell? (ad.add j) = some u) →
      (execOp a.eval o).run P w = .ok (.value (.string ⟨(es.map toByte).toArray⟩)) w := by
    intro es us sz el f A cap sz0 b0 z0 hs hd' hTe hes hall hxv hcell
    have he8 : P.underlying el = some (.int .u8) := (hT el _ hTe).1
    have hform : ∀ (es : List PV) (us : List Value) (f : List Nat), Es w R σ sz es us f → (∀ e ∈ es, e.isByte = true) → us = es.map (fun e => match e with | .int _ n => Value.int .u8 n | _ => Go.undef) := by
      intro es
      induction es with
      | nil => intro us f h _; simp only [Es] at h; simp [h.1]
      | cons e es ih =>
        intro us f h hall
        simp only [Es] at h
        obtain ⟨v, us', f1, f2, rfl, _, _, _, hv, h2, _⟩ := h
        obtain ⟨m, rfl⟩ := isByte_form (hall e (by simp))
        simp only [V] at hv
        obtain ⟨rfl, _⟩ := hv
        simp [Value.cells, ih us' f2 h2 (fun e he => hall e (by simp [he]))]
    have hus := hform es us f hes hall
    rcases Nat.eq_zero_or_pos es.length with h0 | h0
    · have : es = [] := List.eq_nil_of_length_eq_zero h0
      subst this
      have hl0 : ∀ ad : Addr, (loadCells ad 0).run P w = .ok #[] w := fun ad => by simpa using run_loadCells_list (P := P) w ad [] (by simp)
      have : (convert src dst (.slice A 0 cap)).run P w = .ok (.string ⟨#[]⟩) w := by
        rw [run_convert_bytes_string w src dst el A 0 cap hs he8 hd']
        cases A with
        | none => simp [Conv.bytesToString]; rfl
        | some ad => simp [Conv.bytesToString, hl0]; rfl
      simp only [execOp, ho, Sem.run_bind, hxv, List.length_nil, this, Result.andThen_ok, Sem.run_pure]
      rfl
    · obtain ⟨ad, rfl, hc⟩ := hcell h0
      have hl : (loadCells ad es.length).run P w = .ok us.toArray w := by
        have := run_loadCells_list (P := P) w ad us hc
        rwa [show us.length = es.length by rw [hus]; simp] at this
      have hus2 : us = (es.map (fun e => match e with | .int _ n => n | _ => 0)).map (Value.int .u8) := by
        rw [hus, List.map_map]
        apply List.map_congr_left
        intro e he
        obtain ⟨m, rfl⟩ := isByte_form (hall e he)
        rfl
      rw [hus2] at hl
      have : (convert src dst (.slice (some ad) es.length cap)).run P w = .ok (.string ⟨(es.map toByte).toArray⟩) w := by
        rw [run_convert_bytes_string w src dst el _ es.length cap hs he8 hd', run_bytesToString w _ es.length cap _ hl, foldl_push_bytes]
        have : (es.map (fun e => match e with | .int _ n => n | _ => 0)).map (fun n => UInt8.ofNat n.toNat) = es.map toByte := by
          rw [List.map_map]
          apply List.map_congr_left
          intro e he
          obtain ⟨m, rfl⟩ := isByte_form (hall e he)
          rfl
        rw [this]
        simp [ByteArray.empty, ByteArray.emptyWithCapacity]
        rfl
      simp only [execOp, ho, Sem.run_bind, hxv, this, Result.andThen_ok, Sem.run_pure]
  cases hts : ts.d <;> cases htd : td.d <;> rw [hts, htd] at he <;> rw [hts] at hds <;> rw [htd] at hdd <;> cases hev : ev E st x <;> rw [hev] at he hx <;> simp only at he <;> try (cases he; done)
  · -- whole numbers
    rename_i k0 k k' m
    simp only [V] at hx
    refine out_plain h hd he (u := .int k (k.wrap m)) (by simp [V]) ?_
    simp only [DescOk] at hds hdd
    simp [execOp, ho, hx.1, convert, run_underlying hds, run_underlying hdd, Conv.intToInt]
  · -- a string as a string
    rename_i s
    simp only [V] at hx
    refine out_plain h hd he (u := .string ⟨s.toArray⟩) (by simp [V]) ?_
    simp only [DescOk] at hds hdd
    simp [execOp, ho, hx.1, convert, run_underlying hds, run_underlying hdd]
  · -- a string's bytes
    rename_i el s
    split at he
    · rename_i sz0 b0 z0 hTe
      simp only [Option.some.injEq, Prod.mk.injEq] at he
      obtain ⟨rfl, rfl⟩ := he
      have he8 : P.underlying el = some (.int .u8) := (hT el _ hTe).1
      simp only [V] at hx
      simp only [DescOk] at hds hdd
      have hr := run_bytes_of_string (P := P) w src dst el ⟨s.toArray⟩ hds hdd he8
      have hsz : (ByteArray.mk s.toArray).size = s.length := by simp [ByteArray.size]
      rw [hsz] at hr
      have hlm : s.length ≤ maxLen := by rw [maxLen_val]; omega
      have hge := grownCap_ge w s.length 0 el
      have hle := grownCap_le_maxLen w s.length 0 el hlm
      have hrs : (bytesRow ⟨s.toArray⟩ (grownCap w s.length 0 el)).size = grownCap w s.length 0 el := by simp [bytesRow, hsz]; omega
      have htk : (bytesRow ⟨s.toArray⟩ (grownCap w s.length 0 el)).toList.take s.length = s.map fun b => Value.int .u8 b.toNat := by
        simp only [bytesRow, Array.toList_append, Array.toList_map]
        exact List.take_left' (by simp)
      have hes : Es w R σ 1 (s.map fun b => PV.int .u8 b.toNat) (s.map fun b => Value.int .u8 b.toNat) [] := by
        clear hx htk hrs hge hle hlm hsz hr hev hp
        induction s with
        | nil => simp [Es]
        | cons b s ih =>
          simp only [List.map_cons, Es]
          exact ⟨.int .u8 b.toNat, _, [], [], rfl, rfl, by simp [Value.cells, Value.oneCell'], by simp, by simp [V], ih, rfl⟩
      refine out_row h hd List.nodup_nil hes (by simp) (v := .slice (some ⟨w.heap.size, 0, none⟩) s.length (grownCap w s.length 0 el)) (w' := w.drew.alloc (.cells (bytesRow ⟨s.toArray⟩ (grownCap w s.length 0 el)) el ((bytesRow ⟨s.toArray⟩ (grownCap w s.length 0 el)).size, (bytesRow ⟨s.toArray⟩ (grownCap w s.length 0 el)).size + 1))) ?_ rfl ?_ (fun b hb => heap_old w.drew _ b hb) (by simp) ⟨rfl, fun _ => Nat.le_succ _⟩ rfl rfl ?_
      · refine ⟨by simp, .inr ⟨w.heap.size, _, _, el, _, _, by simp, heap_new w.drew _, .inr (Nat.le_refl _), by simpa using hge, hle, by rw [hrs]; omega, ?_⟩⟩
        simpa using htk
      · intro b hb
        simp [blkOf] at hb
        subst hb
        simp
      · simp only [execOp, ho, Sem.run_bind, hx.1, hr, Result.andThen_ok, Sem.run_pure]
    · cases he
  · -- bytes that are read
    rename_i el es
    split at he
    · rename_i sz0 b0 z0 hTe
      simp only [Option.some.injEq, Prod.mk.injEq] at he
      obtain ⟨rfl, rfl⟩ := he
      simp only [V] at hx
      obtain ⟨_, A, cap, us, sz, hxv, k1, k2, k3, k4⟩ := hx
      exact out_val h hd (by simp [V]) (bytes hds hdd hTe k4 hp hxv (fun hn => by obtain ⟨ad, e, _, hc⟩ := k3 hn; exact ⟨ad, e, hc⟩))
    · cases he
  · -- bytes that are owned
    rename_i el r
    split at he
    · rename_i sz0 b0 z0 sz es links hTe hr
      simp only [Option.some.injEq, Prod.mk.injEq] at he
      obtain ⟨rfl, rfl⟩ := he
      obtain ⟨k, q1, q2, q3⟩ := h.rt r _ hr
      simp only [V] at hx q2
      obtain ⟨_, k', hk', hxv, _⟩ := hx
      obtain rfl : k = k' := by rw [q1] at hk'; exact Option.some.inj hk'
      obtain ⟨us, fp', hrow, hes, hfp⟩ := q2
      obtain ⟨A, c, hh, h1, h2⟩ := hrow.form
      exact out_val h hd (by simp [V]) (bytes hds hdd hTe hes hp (hxv.trans hh) (fun hn => hrow.cells hh hn))
    · cases he
end
end Go.Proofs.YtmanllfmgghadaaGreatDoor.PVE
namespace Go.Proofs.YtmanllfmgghadaaGreatDoor.PVE
open PV
section
variable {P : Program} {E : Env} {w0 : World} {R0 : Nat → Prop} {F0 : List Nat} {gh : Nat → Value} {n : Nat} {Fr : Nat → Prop} {R : Nat → Prop} {σ : Nat → Option Hd} {fps : Nat → List Nat} {st : St} {a : Act} {w : World} [Dm]
theorem Es.mem {sz : Nat} {es : List PV} {us : List Value} {f : List Nat} (h : Es w R σ sz es us f) (hf : f = []) {k : Nat} {e : PV} (he : es[k]? = some e) :
    ∃ us1, us1.length = sz ∧ (∀ j u, us1[j]? = some u → us[k * sz + j]? = some u) ∧ Cs w R σ e.cells us1 [] := by
  subst hf
  obtain ⟨u1, v, u2, f1, f, f2, rfl, hl, hs, hone, hu, hv, hff, _, _⟩ := h.at he
  obtain ⟨rfl, rfl, rfl⟩ : f1 = [] ∧ f = [] ∧ f2 = [] := by simpa using hff.symm
  refine ⟨v.cells.toList, by simpa using hs, fun j u hj => ?_, V.cellsOf hv hone hu⟩
  have hj' : j < v.cells.toList.length := (List.getElem?_eq_some_iff.1 hj).1
  rw [← hl, List.append_assoc, List.getElem?_append_right (by omega), Nat.add_sub_cancel_left, List.getElem?_append_left hj', hj]
theorem out_indexAddr (hT : TyOk P E.T) (h : Rel w0 R0 F0 gh E.G n Fr R σ fps st a w) {o : Oper} (hd : dstOk n o.dst) {t : Nat} {x ix : Operand} (ho : o.op = .indexAddr t x ix) {p : Prop} {e : Eff} (he : eff E st o.op = some (p, e)) (hp : p) : Out P E w0 R0 F0 gh n Fr st o a w e := by
  rw [ho] at he
  simp only [eff] at he
  have hx := ev_V h x
  have hix := ev_V h ix
  split at he
  case h_2 => cases he
  rename_i el sz0 b0 z0 hTt
  have ht : P.underlying t = some (.slice el) := (hT t _ hTt).1
  have htt : P.underlying t = some (.slice (P.elem t)) := by rw [ht]; simp [Program.elem, ht]
  have hel : P.elem t = el := by simp [Program.elem, ht]
  split at he
  case h_2 => cases he
  rename_i ti k m hTe hevi
  obtain ⟨_, tinf, z, g1, g2, g3, g4, g5, g6, g7, g8, g9⟩ := hT el ti hTe
  rw [hevi] at hix
  simp only [V] at hix
  have run : ∀ {ad : Addr} {len cap : Nat}, a.eval x = .slice (some ad) len cap → 0 ≤ m → m.toNat < len → (execOp a.eval o).run P w = .ok (.value (.pointer (some (ad.add (m.toNat * ti.size))))) w := by
    intro ad len cap hxv h0 hlt
    have : 0 ≤ m ∧ m < (len : Int) := ⟨h0, by omega⟩
    simp only [execOp, ho, Sem.run_bind, hxv, hix.1, run_indexAt_slice w t ad len cap k m htt, this, and_self, if_true, hel, sizeOf, typeInfo, run_program, Result.andThen_ok, g1, Sem.run_pure, g3]
  cases hev : ev E st x <;> rw [hev] at he hx <;> simp only at he <;> try (cases he; done)
  · rename_i es
    split at he
    case h_2 => cases he
    rename_i el' hes
    split at he
    case isFalse => cases he
    rename_i hcl
    simp only [Option.some.injEq, Prod.mk.injEq] at he
    obtain ⟨rfl, rfl⟩ := he
    simp only [V] at hx
    obtain ⟨_, A, cap, us, sz, hxv, k1, k2, k3, k4⟩ := hx
    have hlt := (List.getElem?_eq_some_iff.1 hes).1
    obtain ⟨ad, rfl, hR, hc⟩ := k3 (by omega)
    obtain ⟨us1, l1, l2, l3⟩ := k4.mem rfl hes
    have hsz : sz = ti.size := by rw [← l1, l3.length, hcl]
    subst hsz
    refine out_val h hd (u := .pointer (some (ad.add (m.toNat * ti.size)))) ?_ (run hxv hp hlt)
    simp only [V]
    exact ⟨trivial, _, us1, rfl, by rw [add_block]; exact hR, fun j u hj => by rw [add_add']; exact hc _ u (l2 j u hj), l3⟩
  · rename_i r
    split at he
    case h_2 => cases he
    rename_i sz es links hr
    split at he
    case h_2 => cases he
    rename_i el' hes
    split at he
    case isFalse => cases he
    rename_i hsz
    subst hsz
    simp only [Option.some.injEq, Prod.mk.injEq] at he
    obtain ⟨rfl, rfl⟩ := he
    obtain ⟨kk, q1, q2, q3⟩ := h.rt r _ hr
    simp only [V] at hx q2
    obtain ⟨_, k', hk', hxv, _⟩ := hx
    obtain rfl : kk = k' := by rw [q1] at hk'; exact Option.some.inj hk'
    obtain ⟨us, fp', hrow, hes', hfp⟩ := q2
    have hlt := (List.getElem?_eq_some_iff.1 hes).1
    rcases hrow.2 with ⟨_, h0⟩ | ⟨g, cap, cur, e', lo, hi, hh, _⟩
    · omega
    · refine out_val h hd (u := .pointer (some ((⟨g, 0, none⟩ : Addr).add (m.toNat * ti.size)))) ?_ (run (hxv.trans hh) hp hlt)
      simp only [V]
      simp only [RootTy] at q3
      exact ⟨trivial, kk, g, q1, by rw [hh]; rfl, by rw [add_lit', q3]; simp⟩
  · rename_i r x0 y0
    split at he
    case h_2 => cases he
    rename_i sz es links hr
    split at he
    case isFalse => cases he
    rename_i hsz
    subst hsz
    simp only [Option.some.injEq, Prod.mk.injEq] at he
    obtain ⟨rfl, rfl⟩ := he
    obtain ⟨kk, q1, q2, q3⟩ := h.rt r _ hr
    simp only [V] at hx q2
    obtain ⟨_, k', A, m', c, B, c', hk', hhv, r1, r2, hxv, r3, r4, r5⟩ := hx
    obtain rfl : kk = k' := by rw [q1] at hk'; exact Option.some.inj hk'
    obtain ⟨us, fp', hrow, hes', hfp⟩ := q2
    simp only [RootTy] at q3
    rcases hrow.2 with ⟨hh, h0⟩ | ⟨g, cap, cur, e', lo, hi, hh, _⟩
    · rw [hhv] at hh
      simp only [Value.slice.injEq] at hh
      omega
    · rw [hhv] at hh
      simp only [Value.slice.injEq] at hh
      obtain ⟨rfl, rfl, rfl⟩ := hh
      have hB := r5 (by omega)
      rw [hB] at hxv
      refine out_val h hd (u := .pointer (some (((⟨g, 0, none⟩ : Addr).add (x0 * kk.sz)).add (m.toNat * ti.size)))) ?_ (run hxv hp.1 hp.2)
      simp only [V]
      exact ⟨trivial, kk, g, q1, by rw [hhv]; rfl, by rw [add_add', add_lit', q3]; simp [Nat.add_mul]⟩
theorem out_fieldAddr (hT : TyOk P E.T) (h : Rel w0 R0 F0 gh E.G n Fr R σ fps st a w) {o : Oper} (hd : dstOk n o.dst) {t f : Nat} {x : Operand} (ho : o.op = .fieldAddr t x f) {p : Prop} {e : Eff} (he : eff E st o.op = some (p, e)) (hp : p) : Out P E w0 R0 F0 gh n Fr st o a w e := by
  rw [ho] at he
  simp only [eff] at he
  have hx := ev_V h x
  split at he
  case h_2 => cases he
  rename_i fs sz0 b0 z0 hTt
  obtain ⟨fds, hu, hfds, hfsz⟩ := (hT t _ hTt).1
  split at he
  case h_2 => cases he
  rename_i off ft hfs
  rw [← hfds, List.getElem?_map] at hfs
  cases hf : fds.toList[f]? with
  | none => rw [hf] at hfs; cases hfs
  | some fd =>
    rw [hf] at hfs
    simp only [Option.map_some, Option.some.injEq, Prod.mk.injEq] at hfs
    obtain ⟨rfl, rfl⟩ := hfs
    obtain ⟨tinf, g1, g2⟩ := hfsz fd (List.mem_of_getElem? hf)
    have hfa : fds[f]? = some fd := by simpa using hf
    have run : ∀ {ad : Addr}, a.eval x = .pointer (some ad) → (execOp a.eval o).run P w = .ok (.value (.pointer (some (ad.add fd.offset)))) w := by
      intro ad hxv
      simp [execOp, ho, hxv, Instr.fieldAt, run_underlying hu, hfa, Instr.sureAddr, fieldPlace, sizeOf, typeInfo, g1, g2]
    cases hev : ev E st x <;> rw [hev] at he hx <;> simp only at he <;> try (cases he; done)
    · simp only [V] at hx
      obtain ⟨_, ad, us, hxv, hR, hc, hcs⟩ := hx
      refine out_plain h hd he (u := .pointer (some (ad.add fd.offset))) ?_ (run hxv)
      simp only [V]
      refine ⟨trivial, _, us.drop fd.offset, rfl, by rw [add_block]; exact hR, fun j u hj => ?_, hcs.drop_ _⟩
      rw [List.getElem?_drop] at hj
      rw [add_add']; exact hc _ u hj
    · rename_i r i o'
      simp only [V] at hx
      obtain ⟨_, hh, b, k1, k2, hxv⟩ := hx
      refine out_plain h hd he (u := .pointer (some ((⟨b, i * hh.sz + o', none⟩ : Addr).add fd.offset))) ?_ (run hxv)
      simp only [V]
      exact ⟨trivial, hh, b, k1, k2, by rw [add_lit']; simp [Nat.add_assoc]⟩
theorem out_field (hT : TyOk P E.T) (h : Rel w0 R0 F0 gh E.G n Fr R σ fps st a w) {o : Oper} (hd : dstOk n o.dst) {t f : Nat} {x : Operand} (ho : o.op = .field t x f) {p : Prop} {e : Eff} (he : eff E st o.op = some (p, e)) (hp : p) : Out P E w0 R0 F0 gh n Fr st o a w e := by
  rw [ho] at he
  simp only [eff] at he
  have hx := ev_V h x
  split at he
  case h_2 => cases he
  rename_i fs sz0 b0 z0 hTt
  obtain ⟨fds, hu, hfds, hfsz⟩ := (hT t _ hTt).1
  split at he
  case h_2 => cases he
  rename_i off ft hfs
  rw [← hfds, List.getElem?_map] at hfs
  cases hf : fds.toList[f]? with
  | none => rw [hf] at hfs; cases hfs
  | some fd =>
    rw [hf] at hfs
    simp only [Option.map_some, Option.some.injEq, Prod.mk.injEq] at hfs
    obtain ⟨rfl, rfl⟩ := hfs
    have hfa : fds[f]? = some fd := by simpa using hf
    split at he
    case h_2 => cases he
    rename_i i cs hTf hev
    rw [hev] at hx
    simp only [V] at hx
    obtain ⟨us, hxv, hcs⟩ := hx
    obtain ⟨_, tinf, z, g1, g2, g3, g4, g5, g6, g7, g8, g9⟩ := hT _ i hTf
    have hag := run_isAgg hT hTf w
    split at he
    case isFalse => cases he
    rename_i hlen
    split at he
    · rename_i hb
      rw [hb] at hag
      refine out_plain h hd he (u := .agg ((us.drop fd.offset).take i.size).toArray) ?_ ?_
      · simp only [V]; exact ⟨_, rfl, (hcs.drop_ _).take_ _⟩
      · simp [execOp, ho, hxv, Instr.field, run_underlying hu, hfa, asAgg, part, hag, sizeOf, typeInfo, g1, g3]
    · rename_i hb
      have hb : isAggT i = false := by simpa using hb
      rw [hb] at hag
      split at he
      case h_2 => cases he
      rename_i c hc
      obtain ⟨u, f', k1, k2, k3, k4⟩ := hcs.at hc
      obtain rfl : f' = [] := List.eq_nil_iff_forall_not_mem.2 fun b hb => by simpa using k4 b hb
      refine out_plain h hd he (u := u) k3 ?_
      simp [execOp, ho, hxv, Instr.field, run_underlying hu, hfa, asAgg, part, hag, k1]
theorem out_index (hT : TyOk P E.T) (h : Rel w0 R0 F0 gh E.G n Fr R σ fps st a w) {o : Oper} (hd : dstOk n o.dst) {t : Nat} {x ix : Operand} (ho : o.op = .index t x ix) {p : Prop} {e : Eff} (he : eff E st o.op = some (p, e)) (hp : p) : Out P E w0 R0 F0 gh n Fr st o a w e := by
  rw [ho] at he
  simp only [eff] at he
  have hx := ev_V h x
  have hix := ev_V h ix
  split at he
  case h_2 => cases he
  rename_i sz0 b0 z0 hTt
  have ht : P.underlying t = some .string := (hT t _ hTt).1
  split at he
  case h_2 => cases he
  rename_i k m s hevi hevx
  simp only [Option.some.injEq, Prod.mk.injEq] at he
  obtain ⟨rfl, rfl⟩ := he
  rw [hevi] at hix
  rw [hevx] at hx
  simp only [V] at hx hix
  have hlt : m.toNat < s.length := by omega
  obtain ⟨b, hbe⟩ : ∃ b, s[m.toNat] = b := ⟨_, rfl⟩
  have hgd : s.getD m.toNat 0 = b := by rw [List.getD_eq_getElem?_getD, List.getElem?_eq_getElem hlt, hbe]; rfl
  rw [hgd]
  refine out_val h hd (u := .int .u8 b.toNat) (by simp [V]) ?_
  have hsz : (ByteArray.mk s.toArray).size = s.length := by simp [ByteArray.size]
  have hcond : 0 ≤ m ∧ m < ((ByteArray.mk s.toArray).size : Int) := ⟨hp.1, by rw [hsz]; omega⟩
  simp only [execOp, ho, Sem.run_bind, hx.1, hix.1, run_index_string w t _ k m ht, hcond, dif_pos, and_self, Result.andThen_ok, Sem.run_pure]
  have : (ByteArray.mk s.toArray)[m.toNat]'(by rw [hsz]; exact hlt) = b := by rw [← hbe]; rfl
  rw [this]
theorem out_makeSlice (hT : TyOk P E.T) (h : Rel w0 R0 F0 gh E.G n Fr R σ fps st a w) {o : Oper} (hd : dstOk n o.dst) {t : Nat} {x y : Operand} (ho : o.op = .makeSlice t x y) {p : Prop} {e : Eff} (he : eff E st o.op = some (p, e)) (hp : p) : Out P E w0 R0 F0 gh n Fr st o a w e := by
  rw [ho] at he
  simp only [eff] at he
  have hx := ev_V h x
  have hy := ev_V h y
  split at he
  case h_2 => cases he
  rename_i el sz0 b0 z0 hTt
  have ht : P.underlying t = some (.slice el) := (hT t _ hTt).1
  split at he
  case h_2 => cases he
  rename_i i m m' hTe hex hey
  simp only [Option.some.injEq, Prod.mk.injEq] at he
  obtain ⟨rfl, rfl⟩ := he
  obtain ⟨p0, rfl, p2, p3⟩ := hp
  obtain ⟨_, tinf, z, g1, g2, g3, g4, g5, g6, g7, g8, g9⟩ := hT el i hTe
  rw [hex] at hx
  rw [hey] at hy
  simp only [V] at hx hy
  have hN : m.toNat ≤ m.toNat * i.bytes := Nat.le_mul_of_pos_right _ p3
  have hr := run_make (P := P) w t el tinf z ht g1 g2 .i64 .i64 m m p0 (Int.le_refl _) (by
    rw [g4]
    have : ((i.bytes * m.toNat : Nat) : Int) ≤ 281474976710656 := by rw [Nat.mul_comm]; omega
    rw [Int.natCast_mul] at this
    rwa [Int.toNat_of_nonneg p0] at this) (by omega)
  rw [g3] at hr
  obtain ⟨zc, zu⟩ := zv_Cs (w := w) (R := R) (σ := σ) g9
  have hzl : i.zero.length = i.size := by rw [← zc.length]; simp [g5]
  have hzV : V w R σ (zeroElem i) z [] ∧ zeroElem i ≠ .undef ∧ ∀ u ∈ z.cells, u.oneCell' = true := by
    refine ⟨?_, ?_, fun u hu => zc.one u (by simpa using hu)⟩
    · unfold zeroElem
      cases hb : isAggT i with
      | true => obtain ⟨us, rfl⟩ := g7 hb; simp only [if_true, V]; exact ⟨us.toList, by simp, by simpa [Value.cells] using zc⟩
      | false =>
        have ho := g8 hb
        rw [oneCell_cells ho] at zc
        match hzz : i.zero, zc with
        | [], zc => simp [Cs] at zc
        | c :: cs, zc =>
          simp only [Cs, List.toList_toArray] at zc
          obtain ⟨u, us', f1, f2, hu, _, hv, _, hf⟩ := zc
          obtain ⟨rfl, rfl⟩ : f1 = [] ∧ f2 = [] := by simpa using hf.symm
          simp at hu
          obtain ⟨rfl, _⟩ := hu
          simpa using hv
    · unfold zeroElem
      cases hb : isAggT i with
      | true => simp
      | false =>
        match hzz : i.zero with
        | [] => rw [hzz] at hzl; simp at hzl; omega
        | c :: cs => simp; exact zu c (by simp [hzz])
  have hmade : ∀ k : Nat, (madeCells z.cells (k * i.size)).toList = (List.replicate k z.cells.toList).flatten := by
    intro k
    apply List.ext_getElem?
    intro j
    rw [Array.getElem?_toList, madeCells, Array.getElem?_map]
    by_cases hj : j < k * i.size
    · rw [Array.getElem?_range, if_pos hj]
      have : ∀ (k j : Nat), j < k * i.size → ((List.replicate k z.cells.toList).flatten)[j]? = z.cells[j % i.size]? := by
        intro k
        induction k with
        | zero => intro j hj; omega
        | succ k ih =>
          intro j hj
          rw [List.replicate_succ, List.flatten_cons]
          by_cases hj2 : j < i.size
          · rw [List.getElem?_append_left (by simpa [g5] using hj2), Nat.mod_eq_of_lt hj2, Array.getElem?_toList]
          · rw [List.getElem?_append_right (by simp [g5]; omega), Array.length_toList, g5, ih (j - i.size) (by rw [Nat.add_mul] at hj; omega)]
            congr 1
            conv => rhs; rw [← Nat.sub_add_cancel (show i.size ≤ j by omega), Nat.add_mod_right]
      rw [this k j hj]
      have hmod : j % i.size < z.cells.size := by rw [g5]; exact Nat.mod_lt _ g6
      simp [g5, hmod, Array.getElem?_eq_getElem hmod]
      exact getElem!_pos z.cells _ hmod
    · rw [Array.getElem?_range, if_neg hj]
      rw [List.getElem?_eq_none (by simp [g5]; omega)]
      rfl
  have hes : ∀ k : Nat, Es w R σ i.size (List.replicate k (zeroElem i)) ((List.replicate k z.cells.toList).flatten) [] := by
    intro k
    induction k with
    | zero => simp [Es]
    | succ k ih =>
      simp only [List.replicate_succ, List.flatten_cons, Es]
      exact ⟨z, _, [], [], rfl, g5, hzV.2.2, hzV.2.1, hzV.1, ih, rfl⟩
  refine out_row h hd List.nodup_nil (hes m.toNat) (by simp) (v := .slice (some ⟨w.heap.size, 0, none⟩) m.toNat m.toNat) (w' := w.alloc (.cells (madeCells z.cells (m.toNat * i.size)) el)) ?_ rfl ?_ (fun b hb => heap_old w _ b hb) (by simp) ⟨rfl, fun _ => Nat.le_refl _⟩ rfl rfl ?_
  · rw [List.length_replicate]
    exact Row.new w (Nat.le_refl _) (by rw [maxLen_val]; omega) (size_madeCells _ _) (by rw [hmade]; apply List.take_of_length_le; simp [g5])
  · intro b hb
    simp [blkOf] at hb
    subst hb
    simp
  · simp only [execOp, ho, Sem.run_bind, hx.1, hy.1, hr, Result.andThen_ok, Sem.run_pure]
end
end Go.Proofs.YtmanllfmgghadaaGreatDoor.PVE
namespace Go.Proofs.YtmanllfmgghadaaGreatDoor.PVE
open PV
theorem keyOk_flat : ∀ {ks : List Nat} {cs : List PV}, keyOk ks cs = true → cs.all PV.flatC = true ∧ cs.length = ks.length
  | [], cs, h => by cases cs <;> simp [keyOk] at h ⊢
  | k :: ks, [], h => by rcases k with _ | _ | _ | k <;> simp [keyOk] at h
  | 0 :: ks, c :: cs, h => by
    cases c <;> simp [keyOk] at h
    have := keyOk_flat h
    simp [PV.flatC, this.1, this.2]
  | 1 :: ks, c :: cs, h => by
    cases c <;> simp [keyOk] at h
    have := keyOk_flat h
    simp [PV.flatC, this.1, this.2]
  | 2 :: ks, c :: cs, h => by
    cases c <;> simp [keyOk] at h
    have := keyOk_flat h
    simp [PV.flatC, this.1, this.2]
  | (_ + 3) :: ks, c :: cs, h => by simp [keyOk] at h
theorem eqCells_flat : ∀ {ks : List Nat} {a b : List PV} {r : Bool}, eqCells ks a b = some r → a.all PV.flatC = true ∧ b.all PV.flatC = true
  | [], a, b, r, h => by cases a <;> cases b <;> simp [eqCells] at h ⊢
  | k :: ks, [], b, r, h => by rcases k with _ | _ | _ | k <;> simp [eqCells] at h
  | k :: ks, x :: a, [], r, h => by rcases k with _ | _ | _ | k <;> cases x <;> simp [eqCells] at h
  | 0 :: ks, x :: a, y :: b, r, h => by
    cases x <;> cases y <;> simp only [eqCells, reduceCtorEq] at h
    split at h
    · cases hq : eqCells ks a b with
      | none => rw [hq] at h; cases h
      | some q => have := eqCells_flat hq; simp [PV.flatC, this.1, this.2]
    · cases h
  | 1 :: ks, x :: a, y :: b, r, h => by
    cases x <;> cases y <;> simp only [eqCells, reduceCtorEq] at h
    cases hq : eqCells ks a b with
    | none => rw [hq] at h; cases h
    | some q => have := eqCells_flat hq; simp [PV.flatC, this.1, this.2]
  | 2 :: ks, x :: a, y :: b, r, h => by
    cases x <;> cases y <;> simp only [eqCells, reduceCtorEq] at h
    cases hq : eqCells ks a b with
    | none => rw [hq] at h; cases h
    | some q => have := eqCells_flat hq; simp [PV.flatC, this.1, this.2]
  | (_ + 3) :: ks, x :: a, y :: b, r, h => by simp [eqCells] at h
theorem eqCells_eq : ∀ {ks : List Nat} {a b : List PV}, eqCells ks a b = some true → a = b
  | [], a, b, h => by cases a <;> cases b <;> simp [eqCells] at h ⊢
  | k :: ks, [], b, h => by rcases k with _ | _ | _ | k <;> simp [eqCells] at h
  | k :: ks, x :: a, [], h => by rcases k with _ | _ | _ | k <;> cases x <;> simp [eqCells] at h
  | 0 :: ks, x :: a, y :: b, h => by
    cases x <;> cases y <;> simp only [eqCells, reduceCtorEq] at h
    split at h
    · rename_i hk
      subst hk
      cases hq : eqCells ks a b with
      | none => rw [hq] at h; cases h
      | some q =>
        rw [hq] at h
        simp only [Option.map_some, Option.some.injEq, Bool.and_eq_true, decide_eq_true_eq] at h
        obtain ⟨rfl, rfl⟩ := h
        rw [eqCells_eq hq]
    · cases h
  | 1 :: ks, x :: a, y :: b, h => by
    cases x <;> cases y <;> simp only [eqCells, reduceCtorEq] at h
    cases hq : eqCells ks a b with
    | none => rw [hq] at h; cases h
    | some q =>
      rw [hq] at h
      simp only [Option.map_some, Option.some.injEq, Bool.and_eq_true, beq_iff_eq] at h
      obtain ⟨rfl, rfl⟩ := h
      rw [eqCells_eq hq]
  | 2 :: ks, x :: a, y :: b, h => by
    cases x <;> cases y <;> simp only [eqCells, reduceCtorEq] at h
    cases hq : eqCells ks a b with
    | none => rw [hq] at h; cases h
    | some q =>
      rw [hq] at h
      simp only [Option.map_some, Option.some.injEq, Bool.and_eq_true, decide_eq_true_eq] at h
      obtain ⟨rfl, rfl⟩ := h
      rw [eqCells_eq hq]
  | (_ + 3) :: ks, x :: a, y :: b, h => by simp [eqCells] at h
def mval : List PV → Nat → Option PV
  | _ :: v :: _, 0 => some v
  | _ :: _ :: es, i + 1 => mval es i
  | _, _ => none
def mkey : List PV → Nat → Option PV
  | k :: _ :: _, 0 => some k
  | _ :: _ :: es, i + 1 => mkey es i
  | _, _ => none
theorem mfind_at : ∀ {es : List PV} {ks : List Nat} {k : List PV} {i j : Nat} {v : PV}, mfind ks k es i = some (some (j, v)) → ∃ m c, j = i + m ∧ mval es m = some v ∧ mkey es m = some (.agg c) ∧ eqCells ks k c = some true
  | [], ks, k, i, j, v, h => by simp [mfind] at h
  | [x], ks, k, i, j, v, h => by cases x <;> simp [mfind] at h
  | x :: y :: es, ks, k, i, j, v, h => by
    cases x <;> simp only [mfind, reduceCtorEq] at h
    rename_i c
    split at h
    case h_2 => cases h
    rename_i b hb
    split at h
    · rename_i hbt
      subst hbt
      simp only [Option.some.injEq, Prod.mk.injEq] at h
      obtain ⟨rfl, rfl⟩ := h
      exact ⟨0, c, rfl, rfl, rfl, hb⟩
    · obtain ⟨m, c', h1, h2, h3, h4⟩ := mfind_at h
      exact ⟨m + 1, c', by omega, h2, h3, h4⟩
theorem kvs_cons (o : MapEntry) (os : List MapEntry) : kvs (o :: os) = o.key :: o.val :: kvs os := rfl
theorem kvs_append (a b : List MapEntry) : kvs (a ++ b) = kvs a ++ kvs b := by simp [kvs]
section
variable {P : Program} {E : Env} {w0 : World} {R0 : Nat → Prop} {F0 : List Nat} {gh : Nat → Value} {n : Nat} {Fr : Nat → Prop} {R : Nat → Prop} {σ : Nat → Option Hd} {fps : Nat → List Nat} {st : St} {a : Act} {w : World} [Dm]
theorem flatCs_nil : ∀ {cs : List PV} {us : List Value} {f : List Nat}, cs.all PV.flatC = true → Cs w R σ cs us f → f = []
  | [], us, f, _, h => by simp only [Cs] at h; exact h.2
  | c :: cs, us, f, hc, h => by
    simp only [List.all_cons, Bool.and_eq_true] at hc
    simp only [Cs] at h
    obtain ⟨u, us', f1, f2, rfl, _, h1, h2, rfl⟩ := h
    rw [flatC_fp hc.1 h1, flatCs_nil hc.2 h2]; rfl
theorem keyVals : ∀ {ks : List Nat} {cs : List PV} {us vs : List Value}, keyOk ks cs = true → Cs w R σ cs us [] → Cs w R σ cs vs [] → us = vs ∧ ∀ u ∈ us, ∀ n, Instr.sameBits n u u = true
  | [], cs, us, vs, h, h1, h2 => by
    cases cs with
    | nil => simp only [Cs] at h1 h2; simp [h1.1, h2.1]
    | cons c cs => simp [keyOk] at h
  | k :: ks, [], us, vs, h, _, _ => by rcases k with _ | _ | _ | k <;> simp [keyOk] at h
  | k :: ks, c :: cs, us, vs, h, h1, h2 => by
    simp only [Cs] at h1 h2
    obtain ⟨u, us', f1, f2, rfl, _, k1, k2, k3⟩ := h1
    obtain ⟨v, vs', g1, g2, rfl, _, j1, j2, j3⟩ := h2
    obtain ⟨rfl, rfl⟩ : f1 = [] ∧ f2 = [] := by simpa using k3.symm
    obtain ⟨rfl, rfl⟩ : g1 = [] ∧ g2 = [] := by simpa using j3.symm
    have key : keyOk ks cs = true → (u = v ∧ ∀ n, Instr.sameBits n u u = true) → u :: us' = v :: vs' ∧ ∀ x ∈ u :: us', ∀ n, Instr.sameBits n x x = true := by
      intro hk hu
      obtain ⟨e1, e2⟩ := keyVals hk k2 j2
      refine ⟨by rw [hu.1, e1], fun x hx => ?_⟩
      rcases List.mem_cons.1 hx with rfl | hx
      · exact hu.2
      · exact e2 x hx
    rcases k with _ | _ | _ | k
    · cases c <;> simp [keyOk] at h
      simp only [V] at k1 j1
      refine key h ⟨by rw [k1.1, j1.1], fun n => ?_⟩
      rw [k1.1]; cases n <;> simp [Instr.sameBits]
    · cases c <;> simp [keyOk] at h
      simp only [V] at k1 j1
      refine key h ⟨by rw [k1.1, j1.1], fun n => ?_⟩
      rw [k1.1]; cases n <;> simp [Instr.sameBits]
    · cases c <;> simp [keyOk] at h
      simp only [V] at k1 j1
      refine key h ⟨by rw [k1.1, j1.1], fun n => ?_⟩
      rw [k1.1]; cases n <;> simp only [Instr.sameBits] <;> exact (MapKept.bytes_beq _ _).2 rfl
    · simp [keyOk] at h
theorem sameBits_agg {us : List Value} (h : ∀ u ∈ us, ∀ n, Instr.sameBits n u u = true) (n : Nat) : Instr.sameBits (n + 1) (.agg us.toArray) (.agg us.toArray) = true := by
  simp only [Instr.sameBits, beq_self_eq_true, Bool.true_and]
  rw [List.all_eq_true]
  rintro ⟨x, y⟩ hxy
  have : x = y ∧ x ∈ us := by
    clear h
    induction us with
    | nil => simp at hxy
    | cons u us ih =>
      simp only [List.zip_cons_cons, List.mem_cons, Prod.mk.injEq] at hxy
      rcases hxy with ⟨rfl, rfl⟩ | hxy
      · simp
      · obtain ⟨e1, e2⟩ := ih hxy
        exact ⟨e1, by simp [e2]⟩
  obtain ⟨rfl, hx⟩ := this
  exact h x hx n
theorem equal_run (hS : SOk P E.S) {kt : Nat} {ks : List Nat} (hks : E.S kt = some ks) {cs ds : List PV} {xs ys : List Value} (hx : Cs w R σ cs xs []) (hy : Cs w R σ ds ys []) {b : Bool} (hq : eqCells ks cs ds = some b) : (Op.equal kt (.agg xs.toArray) (.agg ys.toArray)).run P w = .ok b w := by
  have hfl := hS kt ks hks
  unfold flatS at hfl
  split at hfl
  case isFalse => cases hfl
  rename_i hcond
  split at hfl
  case h_2 => cases hfl
  rename_i fs hut
  have hfo : P.fieldsOf kt = fs := by simp [Program.fieldsOf, hut]
  show (Op.equalIn 10000 kt (.agg xs.toArray) (.agg ys.toArray)).run P w = .ok b w
  rw [run_equalIn_agg w 9999 kt _ _ (by rw [hfo]; exact hut) hcond.1, hfo]
  exact eqFields_run 9998 _ _ fs.toList 0 ks cs ds b hfl (by simpa using hx) (by simpa using hy) hq
theorem checkScalar {t k : Nat} (ht : scalarT P t = some k) (em : Bool) (n : Nat) (v : Value) : (Instr.checkKey em (n + 1) t v).run P w = .ok () w := by
  unfold scalarT at ht
  split at ht
  · rename_i hu; unfold Instr.checkKey; simp only [Sem.run_bind, run_underlying hu, Result.andThen_ok]; cases v <;> rfl
  · rename_i hu; unfold Instr.checkKey; simp only [Sem.run_bind, run_underlying hu, Result.andThen_ok]; cases v <;> rfl
  · rename_i hu; unfold Instr.checkKey; simp only [Sem.run_bind, run_underlying hu, Result.andThen_ok]; cases v <;> rfl
  · cases ht
theorem flatF_len : ∀ {fs : List Field} {o : Nat} {ks : List Nat}, flatF P fs o = some ks → ks.length = fs.length ∧ ∀ f ∈ fs, f.name ≠ "_" ∧ f.offset < o + fs.length ∧ ∃ k, scalarT P f.type = some k
  | [], o, ks, h => by simp [flatF] at h; subst h; simp
  | f :: fs, o, ks, h => by
    simp only [flatF] at h
    split at h
    case isFalse => cases h
    rename_i hc
    split at h
    case h_2 => cases h
    rename_i k ks' h1 h2
    obtain rfl := Option.some.inj h
    obtain ⟨e1, e2⟩ := flatF_len h2
    refine ⟨by simp [e1], fun g hg => ?_⟩
    rcases List.mem_cons.1 hg with rfl | hg
    · exact ⟨hc.1, by simp; omega, k, h1⟩
    · obtain ⟨a1, a2, a3⟩ := e2 g hg
      exact ⟨a1, by simp at a2 ⊢; omega, a3⟩
theorem check_run (hS : SOk P E.S) {kt : Nat} {ks : List Nat} (hks : E.S kt = some ks) {cs : List PV} {xs : List Value} (hx : Cs w R σ cs xs []) (hk : keyOk ks cs = true) (em : Bool) : (Instr.checkKey em 10000 kt (.agg xs.toArray)).run P w = .ok () w := by
  have hfl := hS kt ks hks
  unfold flatS at hfl
  split at hfl
  case isFalse => cases hfl
  split at hfl
  case h_2 => cases hfl
  rename_i fs hut
  have hfl2 : flatF P fs.toList 0 = some ks := hfl
  obtain ⟨e1, e2⟩ := flatF_len hfl2
  have hl : xs.length = fs.toList.length := by rw [hx.length, (keyOk_flat hk).2, e1]
  rw [show (10000 : Nat) = 9999 + 1 from rfl, Instr.checkKey]
  simp only [Sem.run_bind, run_underlying hut, Result.andThen_ok]
  rw [← Array.forIn_toList]
  have e3 : ∀ f ∈ fs.toList, f.name ≠ "_" ∧ f.offset < xs.length ∧ ∃ k, scalarT P f.type = some k := fun f hf => by
    obtain ⟨a1, a2, a3⟩ := e2 f hf
    exact ⟨a1, by omega, a3⟩
  clear e2 hl e1 hfl hfl2 hut
  generalize fs.toList = L at e3
  induction L with
  | nil => simp
  | cons f L ih =>
    obtain ⟨hn, ho, k, hs⟩ := e3 f (by simp)
    have hp := run_part_scalar (P := P) hs (cs := xs.toArray) (o := f.offset) (v := xs[f.offset]) (by simp [ho]) w
    have hc := checkScalar (w := w) hs em 9998 xs[f.offset]
    simp only [List.forIn_cons, Sem.run_bind, hn, ne_eq, not_false_eq_true, if_true, Result.andThen_ok, hp, hc, Sem.run_pure]
    exact ih (fun y hy => e3 y (by simp [hy]))
theorem find_run (hS : SOk P E.S) {kt : Nat} {ks : List Nat} (hks : E.S kt = some ks) {cs : List PV} {xs : List Value} (hx : Cs w R σ cs xs []) : ∀ (os : List MapEntry) (es : List PV) (f : List Nat) (i : Nat) (x : Option (Nat × PV)), Ts w R σ es (kvs os) f → mfind ks cs es i = some x →
    (x = none ∧ ∀ j, (Instr.findAsking kt (.agg xs.toArray) os j).run P w = .ok none w) ∨
    ∃ m v o, x = some (i + m, v) ∧ os[m]? = some o ∧ ∀ j, (Instr.findAsking kt (.agg xs.toArray) os j).run P w = .ok (some (j + m, o.val)) w
  | [], es, f, i, x, ht, hm => by
    simp only [kvs, List.flatMap_nil] at ht
    cases es with
    | nil =>
      simp only [mfind, Option.some.injEq] at hm
      exact .inl ⟨hm.symm, fun j => by simp [Instr.findAsking]⟩
    | cons e es => simp [Ts] at ht
  | o :: os, es, f, i, x, ht, hm => by
    rw [kvs_cons] at ht
    cases es with
    | nil => simp [Ts] at ht
    | cons k es =>
    cases es with
    | nil =>
      simp only [Ts] at ht
      obtain ⟨u, us', f1, f2, h1, _, h2, _⟩ := ht
      simp only [List.cons.injEq] at h1
      rw [← h1.2] at h2
      simp at h2
    | cons v es =>
      simp only [Ts] at ht
      obtain ⟨u, us', f1, f2, h1, hk, ⟨u2, us2, f3, f4, h3, hv, hr, h4⟩, h5⟩ := ht
      simp only [List.cons.injEq] at h1
      obtain ⟨rfl, rfl⟩ := h1
      simp only [List.cons.injEq] at h3
      obtain ⟨rfl, rfl⟩ := h3
      cases k <;> simp only [mfind, reduceCtorEq] at hm
      rename_i c
      split at hm
      case h_2 => cases hm
      rename_i b hb
      simp only [V] at hk
      obtain ⟨ys, hky, hc⟩ := hk
      have hf1 := flatCs_nil (eqCells_flat hb).2 hc
      subst hf1
      have heq := equal_run (P := P) hS hks hx hc hb
      rw [← hky] at heq
      split at hm
      · rename_i hbt
        subst hbt
        obtain rfl := Option.some.inj hm
        exact .inr ⟨0, v, o, rfl, rfl, fun j => by simp [Instr.findAsking, heq, Result.andThen]⟩
      · rename_i hbf
        have hbf : b = false := by simpa using hbf
        subst hbf
        rcases find_run hS hks hx os es _ (i + 1) x hr hm with ⟨e1, e2⟩ | ⟨m, v', o', e1, e2, e3⟩
        · exact .inl ⟨e1, fun j => by simp [Instr.findAsking, heq, Result.andThen, e2]⟩
        · exact .inr ⟨m + 1, v', o', by rw [e1]; congr 2; omega, by simpa using e2, fun j => by simp [Instr.findAsking, heq, Result.andThen, e3]; omega⟩
theorem findKey_run (hS : SOk P E.S) {kt : Nat} {ks : List Nat} (hks : E.S kt = some ks) {xs : List Value} {os : List MapEntry} {r : Option (Nat × Value)} (h : (Instr.findAsking kt (.agg xs.toArray) os 0).run P w = .ok r w) : (Instr.findKey kt (.agg xs.toArray) os).run P w = .ok r w := by
  have hfl := hS kt ks hks
  unfold flatS at hfl
  split at hfl
  case isFalse => cases hfl
  split at hfl
  case h_2 => cases hfl
  rename_i fs hut
  unfold Instr.findKey
  simp only [Sem.run_bind, run_underlying hut, Result.andThen_ok]
  cases os with
  | nil =>
    simp only [Instr.findNow, Sem.run_pure]
    simpa [Instr.findAsking] using h
  | cons o os =>
    simp only [Instr.findNow, Instr.sameNow]
    exact h
theorem kv_at : ∀ {os : List MapEntry} {es : List PV} {f : List Nat} {m : Nat} {v : PV}, Ts w R σ es (kvs os) f → mval es m = some v → ∃ o f1 f0 f2, os[m]? = some o ∧ f = f1 ++ f0 ++ f2 ∧ V w R σ v o.val f0 ∧ Ts w R σ (mtake es m) (kvs os) (f1 ++ f2) ∧
    ∀ (k' v' : PV) (key' val' : Value) (f0' : List Nat), V w R σ k' key' [] → V w R σ v' val' f0' → ∃ f1', f1'.Sublist f1 ∧ Ts w R σ (mset es m k' v') (kvs (os.set m ⟨key', val', o.born⟩)) (f1' ++ f0' ++ f2)
  | [], es, f, m, v, h, hv => by
    cases es with
    | nil => simp [mval] at hv
    | cons e es => simp [kvs, Ts] at h
  | o :: os, es, f, m, v, h, hv => by
    rw [kvs_cons] at h
    cases es with
    | nil => simp [Ts] at h
    | cons k es =>
    cases es with
    | nil => simp [mval] at hv
    | cons v0 es =>
      simp only [Ts] at h
      obtain ⟨u, us', f1, f2, h1, hk, ⟨u2, us2, f3, f4, h3, hv0, hr, rfl⟩, rfl⟩ := h
      simp only [List.cons.injEq] at h1
      obtain ⟨rfl, rfl⟩ := h1
      simp only [List.cons.injEq] at h3
      obtain ⟨rfl, rfl⟩ := h3
      cases m with
      | zero =>
        simp only [mval, Option.some.injEq] at hv
        subst hv
        refine ⟨o, f1, f3, f4, rfl, by simp, hv0, ?_, fun k' v' key' val' f0' hk' hv' => ⟨[], List.nil_sublist _, ?_⟩⟩
        · simp only [mtake, kvs_cons, Ts]
          exact ⟨_, _, f1, f4, rfl, hk, ⟨_, _, [], f4, rfl, by simp [V], hr, rfl⟩, rfl⟩
        · simp only [mset, List.set_cons_zero, kvs_cons, Ts]
          exact ⟨_, _, [], f0' ++ f4, rfl, hk', ⟨_, _, f0', f4, rfl, hv', hr, rfl⟩, by simp⟩
      | succ m =>
        simp only [mval] at hv
        obtain ⟨o', g1, g0, g2, q1, rfl, q2, q3, q4⟩ := kv_at hr hv
        refine ⟨o', f1 ++ f3 ++ g1, g0, g2, by simpa using q1, by simp, q2, ?_, fun k' v' key' val' f0' hk' hv' => ?_⟩
        · simp only [mtake, kvs_cons, Ts]
          exact ⟨_, _, f1, f3 ++ (g1 ++ g2), rfl, hk, ⟨_, _, f3, g1 ++ g2, rfl, hv0, q3, rfl⟩, by simp⟩
        · obtain ⟨f1', s1, s2⟩ := q4 k' v' key' val' f0' hk' hv'
          refine ⟨f1 ++ f3 ++ f1', List.Sublist.append_left s1 _, ?_⟩
          simp only [mset, List.set_cons_succ, kvs_cons, Ts]
          exact ⟨_, _, f1, f3 ++ (f1' ++ f0' ++ g2), rfl, hk, ⟨_, _, f3, f1' ++ f0' ++ g2, rfl, hv0, s2, rfl⟩, by simp⟩
theorem Ts.app : ∀ {cs ds : List PV} {us vs : List Value} {f g : List Nat}, Ts w R σ cs us f → Ts w R σ ds vs g → Ts w R σ (cs ++ ds) (us ++ vs) (f ++ g)
  | [], ds, us, vs, f, g, h, k => by simp only [Ts] at h; obtain ⟨rfl, rfl⟩ := h; simpa using k
  | c :: cs, ds, us, vs, f, g, h, k => by
    simp only [Ts, List.cons_append] at h ⊢
    obtain ⟨u, us', f1, f2, rfl, h1, h2, rfl⟩ := h
    exact ⟨u, us' ++ vs, f1, f2 ++ g, rfl, h1, Ts.app h2 k, by simp⟩
theorem modify_set (es : Array MapEntry) (i : Nat) (k v : Value) {o : MapEntry} (ho : es.toList[i]? = some o) : (es.modify i fun e => { e with key := k, val := v }).toList = es.toList.set i ⟨k, v, o.born⟩ := by
  apply List.ext_getElem?
  intro j
  rw [Array.getElem?_toList, Array.getElem?_modify, List.getElem?_set]
  rw [Array.getElem?_toList] at ho
  by_cases hij : i = j
  · subst hij
    have hi : i < es.size := by
      rcases Nat.lt_or_ge i es.size with h | h
      · exact h
      · rw [Array.getElem?_eq_none h] at ho; cases ho
    have := (Array.getElem?_eq_some_iff.1 ho).2
    simp [ho, hi, this]
  · simp [hij, Array.getElem?_toList]
theorem out_makeMap (h : Rel w0 R0 F0 gh E.G n Fr R σ fps st a w) {o : Oper} (hd : dstOk n o.dst) {t : Nat} (ho : o.op = .makeMap t none) {p : Prop} {e : Eff} (he : eff E st o.op = some (p, e)) (hp : p) : Out P E w0 R0 F0 gh n Fr st o a w e := by
  rw [ho] at he
  simp only [eff, mkMapE] at he
  split at he
  case h_2 => cases he
  unfold newRoot at he
  rw [if_pos List.nodup_nil] at he
  simp only [Option.some.injEq, Prod.mk.injEq] at he
  obtain ⟨_, rfl⟩ := he
  intro hFF
  have hF : Fr st.next := hFF _ (Nat.le_refl _) (Nat.lt_succ_self _)
  obtain ⟨fps', hrel⟩ := h.root hF (w' := w.alloc (.map #[] 0)) (dst := o.dst) (pv := .mp 0 []) (links := []) (val := .own st.next) (u := .map (some w.heap.size)) (rem := []) (hd' := ⟨.map (some w.heap.size), 0⟩) (f := [w.heap.size]) hd
    (fun b hb _ => heap_old w _ b hb) (by simp) ⟨rfl, fun _ => Nat.le_refl _⟩ rfl rfl
    (by
      simp only [V, MapAt]
      exact ⟨[w.heap.size], [], [], ⟨_, #[], 0, rfl, rfl, heap_new w _, rfl, by simp, by simp⟩, by simp [kvs, Ts], rfl⟩) trivial (by simp) (by intro b hb; simp at hb; subst hb; exact .inr ⟨Nat.le_refl _, by simp⟩)
    (by simp only [V]; exact ⟨trivial, _, upd_same _ _ _, rfl, rfl⟩)
  exact ⟨_, _, _, R, _, fps', by simp [execOp, ho, Instr.makeMap, Result.andThen], .inl rfl, hrel⟩
theorem map_root (h : Rel w0 R0 F0 gh E.G n Fr R σ fps st a w) {r it : Nat} {u : Value} (hv : V w R σ (.own r) u []) {es : List PV} {links : List (Nat × Nat)} (hr : st.store r = some ⟨.mp it es, links⟩) :
    ∃ hh bs os f, σ r = some hh ∧ u = hh.hdr ∧ MapAt w it hh.hdr bs os ∧ Ts w R σ es (kvs os) f ∧ fps r = bs ++ f := by
  simp only [V] at hv
  obtain ⟨_, hh, h1, rfl, _⟩ := hv
  obtain ⟨hh', k1, k2, k3⟩ := h.rt r _ hr
  obtain rfl : hh = hh' := by rw [h1] at k1; exact Option.some.inj k1
  simp only [V] at k2
  obtain ⟨bs, os, f, q1, q2, q3⟩ := k2
  exact ⟨hh, bs, os, f, h1, rfl, q1, q2, q3⟩
theorem out_lookup (hT : TyOk P E.T) (hS : SOk P E.S) (h : Rel w0 R0 F0 gh E.G n Fr R σ fps st a w) {o : Oper} (hd : dstOk n o.dst) {t : Nat} {x y : Operand} (ho : o.op = .lookup t x y false) {p : Prop} {e : Eff} (he : eff E st o.op = some (p, e)) (hp : p) : Out P E w0 R0 F0 gh n Fr st o a w e := by
  rw [ho] at he
  simp only [eff] at he
  have hx := ev_V h x
  have hy := ev_V h y
  unfold lookE at he
  split at he
  case h_2 => cases he
  rename_i kt et sz by_ ze hTt
  split at he
  case h_2 => cases he
  rename_i ks el b1 kz hks hTe
  split at he
  case h_2 => cases he
  rename_i r cs hex hey
  split at he
  case h_2 => cases he
  rename_i es hr
  split at he
  case isFalse => cases he
  rename_i hko
  rw [hex] at hx
  rw [hey] at hy
  have hut : P.underlying t = some (.map kt et) := (hT t _ hTt).1
  obtain ⟨hh, bs, os, f, k1, hu, hm, hts, hfp⟩ := map_root h hx hr
  simp only [MapAt] at hm
  obtain ⟨b, ea, clock, hhdr, hbs, hb, hos, hlt, hnb⟩ := hm
  simp only [V] at hy
  obtain ⟨xs, hyv, hxs⟩ := hy
  have hchk := check_run (P := P) hS hks hxs hko
  rw [hhdr] at hu
  have hgo : (getObj b).run P w = .ok (.map ea clock) w := MapKept.run_getObj_map hb
  unfold lookV at he
  split at he
  · -- not there
    rename_i hmf
    rcases find_run (P := P) hS hks hxs os es f 0 none hts hmf with ⟨_, e2⟩ | ⟨m, v, o', e1, _⟩
    case inr => cases e1
    have hfk := findKey_run (P := P) hS hks (e2 0)
    rw [hos] at hfk
    obtain ⟨_, ti, z, g1, g2, g3, g4, g5, g6, g7, g8, g9⟩ := hT et _ hTe
    have hz : (zeroValue et).run P w = .ok z w := by simp [zeroValue, typeInfo, g1, g2]
    have hzv : z = .slice none 0 0 := by
      have ho1 := g8 rfl
      rw [oneCell_cells ho1] at g9
      simp only [List.map_cons, List.map_nil, List.cons.injEq, and_true, zv] at g9
      exact (Option.some.inj g9).symm
    refine out_plain h hd he (u := .slice none 0 0) (by simp [V]) ?_
    simp [execOp, ho, hu, hyv, Instr.lookup, run_underlying hut, hgo, hchk, hfk, hz, hzv, Result.andThen]
  · rename_i i sz1 vs hmf
    simp only [Option.some.injEq, Prod.mk.injEq] at he
    obtain ⟨_, rfl⟩ := he
    obtain ⟨m, c, hjm, hmv, _, _⟩ := mfind_at hmf
    simp only [Nat.zero_add] at hjm
    subst hjm
    rcases find_run (P := P) hS hks hxs os es f 0 _ hts hmf with ⟨e1, _⟩ | ⟨m', v', o', e1, e2, e3⟩
    · cases e1
    simp only [Nat.zero_add, Option.some.injEq, Prod.mk.injEq] at e1
    obtain ⟨rfl, rfl⟩ := e1
    have hfk := findKey_run (P := P) hS hks (e3 0)
    rw [hos] at hfk
    obtain ⟨o2, f1, f0, f2, q1, hf, q2, q3, _⟩ := kv_at hts hmv
    obtain rfl : o' = o2 := by rw [e2] at q1; exact Option.some.inj q1
    intro hFF
    have hF : Fr st.next := hFF _ (Nat.le_refl _) (Nat.lt_succ_self _)
    have hrne : r ≠ st.next := by rintro rfl; rw [(h.fr _ hF).2] at hr; cases hr
    have hle := Le_new h hF (some ⟨o'.val, sz1⟩)
    have hone : o'.val.oneCell' = true := by
      simp only [V] at q2
      obtain ⟨us, fp', hrow, _⟩ := q2
      obtain ⟨A, cc, hv, _⟩ := hrow.form
      rw [hv]; rfl
    let fpN : Nat → List Nat := fun q => if q = r then bs ++ (f1 ++ f2) else f0
    have hN1 : fpN r = bs ++ (f1 ++ f2) := by simp [fpN]
    have hN2 : fpN st.next = f0 := by simp [fpN, Ne.symm hrne]
    have hnd := h.nd r
    rw [hfp, hf] at hnd
    have hsub : ∀ b, b ∈ fpN r ∨ b ∈ fpN st.next → b ∈ fps r := fun b hb => by
      rw [hfp, hf]
      rw [hN1, hN2] at hb
      simp at hb ⊢
      rcases hb with (hb | hb | hb) | hb <;> simp [hb]
    have hres := h.change (w' := w) (R' := R) (σ' := upd σ st.next (some ⟨o'.val, sz1⟩)) (e := ⟨.own st.next, [], [(r, ⟨.mp 0 (mtake es i), []⟩), (st.next, ⟨.slo sz1 vs, []⟩)], st.next + 1⟩) (dst := o.dst) (u := o'.val) hd fpN
      (by simp [hrne]) (fun _ h => h) (fun b hb => ⟨(h.Rb b hb).1, .inl hb⟩) hle (fun _ _ => rfl) (fun _ _ _ _ _ => rfl)
      (by
        intro q y hy
        simp only [List.mem_cons, Prod.mk.injEq, List.not_mem_nil, or_false] at hy
        rcases hy with ⟨rfl, rfl⟩ | ⟨rfl, rfl⟩
        · refine ⟨hh, hle _ _ k1, ?_, trivial⟩
          rw [hN1]
          simp only [V]
          refine ⟨bs, os, f1 ++ f2, ?_, Ts.mono (fun _ h => h) hle (fun _ _ => rfl) _ _ _ (fun _ _ => rfl) q3, rfl⟩
          simp only [MapAt]
          exact ⟨b, ea, clock, hhdr, hbs, hb, hos, hlt, hnb⟩
        · exact ⟨_, upd_same _ _ _, by rw [hN2]; exact V.mono (fun _ h => h) hle (fun _ _ => rfl) _ _ _ (fun _ _ => rfl) q2, rfl⟩)
      (by
        simp only [List.map_cons, List.map_nil, List.flatMap_cons, List.flatMap_nil, List.append_nil, hN1, hN2]
        have p1 : (bs ++ (f1 ++ f2) ++ f0).Perm (bs ++ (f1 ++ f0 ++ f2)) := by
          simp only [List.append_assoc]
          exact List.Perm.append_left _ (List.Perm.append_left _ List.perm_append_comm)
        exact p1.nodup_iff.2 hnd)
      (by
        intro q hq b hb
        simp only [List.map_cons, List.map_nil, List.mem_cons, List.not_mem_nil, or_false] at hq
        have hbr : b ∈ fps r := hsub b (by rcases hq with rfl | rfl <;> simp [hb])
        obtain ⟨z1, z2, _⟩ := h.fb r b hbr
        exact ⟨z1, z2, .inl ⟨r, by simp, hbr⟩⟩)
      (fun _ _ _ => rfl) (Nat.le_refl _) (.refl _) rfl rfl
      (by
        intro q hq
        have : q ≠ st.next := by rintro rfl; exact hq.2 ⟨Nat.le_refl _, Nat.lt_succ_self _⟩
        rw [upd_other _ _ _ this]
        exact (h.fr q hq.1).1)
      (by
        intro q hq
        simp only [List.map_cons, List.map_nil, List.mem_cons, List.not_mem_nil, or_false] at hq
        rcases hq with rfl | rfl
        · exact .inl ⟨hh, k1⟩
        · exact .inr ⟨Nat.le_refl _, Nat.lt_succ_self _⟩)
      (by simp only [V]; exact ⟨trivial, _, upd_same _ _ _, rfl, hone⟩)
    refine ⟨.value o'.val, o'.val, w, R, _, _, ?_, .inl rfl, hres⟩
    simp [execOp, ho, hu, hyv, Instr.lookup, run_underlying hut, hgo, hchk, hfk, Result.andThen]
  · cases he
theorem out_update (hT : TyOk P E.T) (hS : SOk P E.S) (h : Rel w0 R0 F0 gh E.G n Fr R σ fps st a w) {o : Oper} (hd : dstOk n o.dst) {t : Nat} {x y z : Operand} (ho : o.op = .mapUpdate t x y z) {p : Prop} {e : Eff} (he : eff E st o.op = some (p, e)) (hp : p) : Out P E w0 R0 F0 gh n Fr st o a w e := by
  rw [ho] at he
  simp only [eff] at he
  have hx := ev_V h x
  have hy := ev_V h y
  have hz := ev_V h z
  unfold updE at he
  split at he
  case h_2 => cases he
  rename_i kt et sz by_ ze hTt
  split at he
  case h_2 => cases he
  rename_i ks hks
  split at he
  case h_2 => cases he
  rename_i r cs hex hey
  split at he
  case h_2 => cases he
  rename_i es hr
  split at he
  case isFalse => cases he
  rename_i hko
  rw [hex] at hx
  rw [hey] at hy
  have hut : P.underlying t = some (.map kt et) := (hT t _ hTt).1
  obtain ⟨hh, bs, os, f, k1, hu, hm, hts, hfp⟩ := map_root h hx hr
  simp only [MapAt] at hm
  obtain ⟨b, ea, clock, hhdr, hbs, hb, hos, hlt, hnb⟩ := hm
  have hyV := hy
  simp only [V] at hy
  obtain ⟨xs, hyv, hxs⟩ := hy
  have hchk := check_run (P := P) hS hks hxs hko
  rw [hhdr] at hu
  have hgo : (getObj b).run P w = .ok (.map ea clock) w := MapKept.run_getObj_map hb
  unfold updV at he
  split at he
  case h_2 => cases he
  rename_i xf c rem hmf hinl
  split at he
  case isFalse => cases he
  rename_i hnd
  simp only [Option.some.injEq, Prod.mk.injEq] at he
  obtain ⟨_, rfl⟩ := he
  have hnd' := List.nodup_cons.1 hnd
  obtain ⟨g, i1, i2, i3, i4⟩ := inl_sound h [ev E st z] [a.eval z] [c] rem hinl (by simp only [Ts]; exact ⟨_, _, [], [], rfl, hz, by simp, rfl⟩)
  simp only [Cs] at i1
  obtain ⟨u1, us1, g1, g2, hc1, ho1, hcv, ⟨rfl, rfl⟩, hg⟩ := i1
  simp only [List.cons.injEq, and_true] at hc1
  subst hc1
  simp only [List.append_nil] at hg
  subst hg
  have hgm : ∀ b ∈ g, ∃ q ∈ rem, b ∈ fps q := fun b hb => by
    obtain ⟨q, hq, hbq⟩ := List.mem_flatMap.1 (i2.mem_iff.1 hb); exact ⟨q, hq, hbq⟩
  have hbr : b ∈ fps r := by rw [hfp, hbs]; simp
  have hbR : ¬ R b := (h.fb r b hbr).2.1
  have hbn : b ∉ f := by
    have := h.nd r
    rw [hfp, hbs] at this
    simp only [List.cons_append, List.nil_append, List.nodup_cons] at this
    exact this.1
  have hbg : b ∉ g := fun hb => by
    obtain ⟨q, hq, hbq⟩ := hgm b hb
    exact h.dj r q (by rintro rfl; exact hnd'.1 hq) b hbr hbq
  -- whatever is laid into the map
  have key : ∀ (ea' : Array MapEntry) (clock' : Nat) (es' : List PV) (f' : List Nat), (execOp a.eval o).run P w = .ok .skip { w with heap := w.heap.setIfInBounds b (.map ea' clock') } → Ts w R σ es' (kvs ea'.toList) f' → (∀ x ∈ ea'.toList, x.born < clock') → (ea'.toList.map (·.born)).Nodup →
      (∀ q ∈ f', q ∈ f ∨ q ∈ g) → f'.Nodup → Out P E w0 R0 F0 gh n Fr st o a w ⟨.void, rem, [(r, ⟨.mp 0 es', []⟩)], st.next⟩ := by
    intro ea' clock' es' f' hrun hts' hlt' hnb' hfm hfn
    let w' : World := { w with heap := w.heap.setIfInBounds b (.map ea' clock') }
    have hoth : ∀ q, q ≠ b → w'.heap[q]? = w.heap[q]? := fun q hq => (MapKept.heap_set hb).2 q hq
    have hw : ∀ q, R q → w'.heap[q]? = w.heap[q]? := fun q hq => hoth q (by rintro rfl; exact hbR hq)
    have hbf' : b ∉ f' := fun hb => (hfm b hb).elim hbn hbg
    have hV : V w' R σ (.mp 0 es') hh.hdr (b :: f') := by
      simp only [V]
      refine ⟨[b], ea'.toList, f', ?_, Ts.mono (fun _ h => h) (Le.refl _) hw _ _ _ (fun q hq => hoth q (by rintro rfl; exact hbf' hq)) hts', rfl⟩
      simp only [MapAt]
      exact ⟨b, ea', clock', hhdr, rfl, (MapKept.heap_set hb).1, rfl, hlt', hnb'⟩
    have hsub : ∀ q ∈ b :: f', q ∈ fps r ∨ ∃ x ∈ rem, q ∈ fps x := fun q hq => by
      rcases List.mem_cons.1 hq with rfl | hq
      · exact .inl hbr
      · rcases hfm q hq with hq | hq
        · exact .inl (by rw [hfp]; simp [hq])
        · exact .inr (hgm q hq)
    have hres := h.change (w' := w') (R' := R) (σ' := σ) (e := ⟨.void, rem, [(r, ⟨.mp 0 es', []⟩)], st.next⟩) (dst := o.dst) (u := Go.undef) hd (fun _ => b :: f')
      (by simp) (fun _ h => h) (fun q hq => ⟨by show q < (w.heap.setIfInBounds b _).size; simpa using (h.Rb q hq).1, .inl hq⟩) (Le.refl _) hw
      (by
        intro q hq hq' d hd'
        refine hoth d ?_
        rintro rfl
        exact h.dj r q (by rintro rfl; exact hq' (by simp)) d hbr hd')
      (by
        intro q y hy
        simp only [List.mem_singleton, Prod.mk.injEq] at hy
        obtain ⟨rfl, rfl⟩ := hy
        exact ⟨hh, k1, hV, trivial⟩)
      (by simp only [List.map_cons, List.map_nil, List.flatMap_cons, List.flatMap_nil, List.append_nil, List.nodup_cons]; exact ⟨hbf', hfn⟩)
      (by
        intro q hq d hd'
        rcases hsub d hd' with hdr | ⟨x, hx, hdx⟩
        · obtain ⟨z1, z2, _⟩ := h.fb r d hdr
          exact ⟨by show d < (w.heap.setIfInBounds b _).size; simpa using z1, z2, .inl ⟨r, by simp, hdr⟩⟩
        · obtain ⟨z1, z2, _⟩ := h.fb x d hdx
          exact ⟨by show d < (w.heap.setIfInBounds b _).size; simpa using z1, z2, .inl ⟨x, by simp [hx], hdx⟩⟩)
      (by
        intro d h1 h2
        refine hoth d ?_
        rintro rfl
        rcases (h.fb r d hbr).2.2 with h3 | h3
        · exact h2 h3
        · omega)
      (by show w.heap.size ≤ (w.heap.setIfInBounds b _).size; simp) ⟨rfl, fun _ => Nat.le_refl _⟩ rfl rfl (fun q hq => (h.fr q hq.1).1) (by simp; exact .inl ⟨_, k1⟩) (by simp [V, Go.undef])
    exact fun _ => ⟨_, _, w', R, σ, _, hrun, .inr ⟨rfl, rfl⟩, hres⟩
  have hndg : g.Nodup := i2.nodup_iff.2 (perm_nodup h hnd'.2)
  have hndf : f.Nodup := by
    have := h.nd r
    rw [hfp] at this
    exact (List.nodup_append.1 this).2.1
  have hdjg : ∀ q ∈ f, q ∉ g := fun q hq hqg => by
    obtain ⟨x, hx, hqx⟩ := hgm q hqg
    exact h.dj r x (by rintro rfl; exact hnd'.1 hx) q (by rw [hfp]; simp [hq]) hqx
  rcases find_run (P := P) hS hks hxs os es f 0 xf hts hmf with ⟨rfl, e2⟩ | ⟨m, v, o', rfl, e2, e3⟩
  · -- a new key
    have hfk := findKey_run (P := P) hS hks (e2 0)
    rw [hos] at hfk
    refine key (ea.push { key := .agg xs.toArray, val := a.eval z, born := clock }) (clock + 1) _ (f ++ g) ?_ ?_ ?_ ?_ (fun q hq => by simpa using hq) ?_
    · simp [execOp, ho, hu, hyv, Instr.mapUpdate, run_underlying hut, hgo, hchk, hfk, MapKept.run_setObj_map _ hb, Result.andThen]
    · simp only [msetO, Array.toList_push, kvs_append]
      rw [← hos]
      refine Ts.app hts ?_
      simp only [kvs_cons, Ts]
      refine ⟨_, _, [], g, rfl, by rw [← hyv]; exact hyV, ⟨_, _, g, [], rfl, hcv, by simp [kvs], by simp⟩, rfl⟩
    · intro q hq
      simp only [Array.toList_push, List.mem_append, List.mem_singleton] at hq
      rcases hq with hq | rfl
      · have := hlt q hq; omega
      · exact Nat.lt_succ_self _
    · simp only [Array.toList_push, List.map_append, List.map_cons, List.map_nil]
      rw [List.nodup_append]
      refine ⟨hnb, by simp, fun q hq d hd' => ?_⟩
      obtain ⟨x, hx, rfl⟩ := List.mem_map.1 hq
      have := hlt x hx
      simp at hd'
      omega
    · rw [List.nodup_append]
      exact ⟨hndf, hndg, fun q hq d hd' he => hdjg q hq (he ▸ hd')⟩
  · -- a key that is there
    have hfk := findKey_run (P := P) hS hks (e3 0)
    rw [hos] at hfk e2
    obtain ⟨m', c', hjm, hmv, hmk, heq⟩ := mfind_at hmf
    simp only [Nat.zero_add] at hjm
    subst hjm
    simp only [Nat.zero_add] at *
    obtain ⟨o2, f1, f0, f2, q1, hf, q2, q3, q4⟩ := kv_at hts hmv
    rw [hos] at q1
    obtain rfl : o' = o2 := by rw [e2] at q1; exact Option.some.inj q1
    -- the key stays
    have hkey : o'.key = .agg xs.toArray := by
      have hceq := eqCells_eq heq
      subst hceq
      have gen : ∀ {os : List MapEntry} {es : List PV} {f : List Nat} {m : Nat} {k : PV} {o : MapEntry}, Ts w R σ es (kvs os) f → mkey es m = some k → os[m]? = some o → ∃ g, V w R σ k o.key g := by
        intro os
        induction os with
        | nil => intro es f m k o _ _ h3; simp at h3
        | cons o os ih =>
          intro es f m k o2 h1 h2 h3
          rw [kvs_cons] at h1
          rcases es with _ | ⟨k0, _ | ⟨v0, es⟩⟩
          · simp [mkey] at h2
          · simp [mkey] at h2
          · simp only [Ts] at h1
            obtain ⟨u, us', f1, f2, hh1, hk, ⟨u2, us2, f3, f4, hh3, hv0, hr, _⟩, _⟩ := h1
            simp only [List.cons.injEq] at hh1
            obtain ⟨rfl, rfl⟩ := hh1
            simp only [List.cons.injEq] at hh3
            obtain ⟨rfl, rfl⟩ := hh3
            cases m with
            | zero =>
              simp only [mkey, Option.some.injEq] at h2
              simp only [List.getElem?_cons_zero, Option.some.injEq] at h3
              subst h2 h3
              exact ⟨f1, hk⟩
            | succ m => exact ih hr (by simpa [mkey] using h2) (by simpa using h3)
      obtain ⟨g', hkv⟩ := gen hts hmk (by rw [hos]; exact e2)
      simp only [V] at hkv
      obtain ⟨ys, hky, hys⟩ := hkv
      have := flatCs_nil (keyOk_flat hko).1 hys
      subst this
      rw [hky, (keyVals hko hxs hys).1]
    have hsb : (Instr.keyThatStays (.agg xs.toArray) (.agg xs.toArray)).run P w = .ok (.agg xs.toArray) w := by
      unfold Instr.keyThatStays
      rw [show (10000 : Nat) = 9999 + 1 from rfl, sameBits_agg (keyVals hko hxs hxs).2]
      rfl
    have hgk : (((ea[m]?).map (·.key)).getD (.agg xs.toArray)) = .agg xs.toArray := by
      rw [Array.getElem?_toList] at e2
      rw [e2]
      exact hkey
    obtain ⟨f1', s1, s2⟩ := q4 (.agg cs) c (.agg xs.toArray) (a.eval z) g (by rw [← hyv]; exact hyV) hcv
    have hmset := modify_set ea m (.agg xs.toArray) (a.eval z) e2
    rw [hf, List.nodup_append, List.nodup_append] at hndf
    obtain ⟨⟨n1, n2, n3⟩, n4, n5⟩ := hndf
    refine key (ea.modify m fun e => { e with key := .agg xs.toArray, val := a.eval z }) clock _ (f1' ++ g ++ f2) ?_ ?_ ?_ ?_ (fun q hq => ?_) ?_
    · simp [execOp, ho, hu, hyv, Instr.mapUpdate, run_underlying hut, hgo, hchk, hfk, hgk, hsb, MapKept.run_setObj_map _ hb, Result.andThen]
    · rw [hmset, ← hos]
      exact s2
    · intro q hq
      rw [hmset] at hq
      rcases List.mem_or_eq_of_mem_set hq with hq | rfl
      · exact hlt q hq
      · exact hlt o' (List.mem_of_getElem? e2)
    · rw [hmset]
      have : (ea.toList.set m ⟨.agg xs.toArray, a.eval z, o'.born⟩).map (·.born) = ea.toList.map (·.born) := by
        rw [List.map_set]
        refine List.ext_getElem? fun j => ?_
        rw [List.getElem?_set]
        split
        · rename_i hmj
          subst hmj
          split
          · rw [List.getElem?_map, e2]; rfl
          · rename_i hl
            rw [List.getElem?_eq_none (by omega)]
        · rfl
      rw [this]
      exact hnb
    · rw [hf]
      simp only [List.mem_append] at hq ⊢
      rcases hq with (hq | hq) | hq
      · exact .inl (.inl (.inl (s1.subset hq)))
      · exact .inr hq
      · exact .inl (.inr hq)
    · rw [List.nodup_append, List.nodup_append]
      refine ⟨⟨s1.nodup n1, hndg, fun q hq d hd' he => hdjg q (by rw [hf]; simp [s1.subset hq]) (he ▸ hd')⟩, n4, fun q hq d hd' he => ?_⟩
      subst he
      rcases List.mem_append.1 hq with hq | hq
      · exact n5 q (by simp [s1.subset hq]) q hd' rfl
      · exact hdjg q (by rw [hf]; simp [hd']) hq
theorem out_range (hT : TyOk P E.T) (h : Rel w0 R0 F0 gh E.G n Fr R σ fps st a w) {o : Oper} (hd : dstOk n o.dst) {t : Nat} {x : Operand} (ho : o.op = .range t x) {p : Prop} {e : Eff} (he : eff E st o.op = some (p, e)) (hp : p) : Out P E w0 R0 F0 gh n Fr st o a w e := by
  rw [ho] at he
  simp only [eff] at he
  have hx := ev_V h x
  unfold rangeE at he
  split at he
  case h_2 => cases he
  rename_i kt et sz by_ ze hTt
  split at he
  case h_2 => cases he
  rename_i r hex
  split at he
  case h_2 => cases he
  rename_i es hr
  simp only [Option.some.injEq, Prod.mk.injEq] at he
  obtain ⟨_, rfl⟩ := he
  rw [hex] at hx
  have hut : P.underlying t = some (.map kt et) := (hT t _ hTt).1
  obtain ⟨hh, bs, os, f, k1, hu, hm, hts, hfp⟩ := map_root h hx hr
  simp only [MapAt] at hm
  obtain ⟨b, ea, clock, hhdr, hbs, hb, hos, hlt, hnb⟩ := hm
  rw [hhdr] at hu
  have hbr : b ∈ fps r := by rw [hfp, hbs]; simp
  have hblt := (h.fb r b hbr).1
  intro hFF
  have hF : Fr st.next := hFF _ (Nat.le_refl _) (Nat.lt_succ_self _)
  have hle := Le_new h hF (some ⟨.pointer (some ⟨w.heap.size, 0, none⟩), 0⟩)
  have hnd := h.nd r
  rw [hfp, hbs] at hnd
  have hlt2 : ∀ q ∈ b :: f, q < w.heap.size := fun q hq => (h.fb r q (by rw [hfp, hbs]; simpa using hq)).1
  obtain ⟨fps', hrel⟩ := h.root hF (w' := w.alloc (.mapIter (some b) clock #[] clock)) (dst := o.dst) (pv := .mp 1 es) (links := []) (val := .own st.next) (u := .pointer (some ⟨w.heap.size, 0, none⟩)) (rem := [r]) (hd' := ⟨.pointer (some ⟨w.heap.size, 0, none⟩), 0⟩) (f := w.heap.size :: b :: f) hd
    (fun q hq _ => heap_old w _ q hq) (by simp) ⟨rfl, fun _ => Nat.le_refl _⟩ rfl rfl
    (by
      simp only [V, MapAt]
      refine ⟨[w.heap.size, b], ea.toList, f, ⟨_, b, ea, clock, rfl, rfl, heap_new w _, by rw [heap_old w _ b hblt]; exact hb, rfl, hlt, hnb⟩, ?_, rfl⟩
      rw [← hos]
      exact Ts.mono (fun _ h => h) hle (fun q hq => heap_old w _ q (h.Rb q hq).1) _ _ _ (fun q hq => heap_old w _ q (hlt2 q (by simp [hq]))) hts) trivial
    (by
      rw [List.nodup_cons]
      refine ⟨fun hm => ?_, by simpa using hnd⟩
      have := hlt2 _ hm
      omega)
    (by
      intro q hq
      rcases List.mem_cons.1 hq with rfl | hq
      · exact .inr ⟨Nat.le_refl _, by simp⟩
      · exact .inl ⟨r, by simp, by rw [hfp, hbs]; simpa using hq⟩)
    (by simp only [V]; exact ⟨trivial, _, upd_same _ _ _, rfl, rfl⟩)
  refine ⟨_, _, _, R, _, fps', ?_, .inl rfl, hrel⟩
  simp only [execOp, ho, hu, Sem.run_bind]
  rw [run_range_map w t kt et b ea clock hut hb]
  rfl
theorem out_entry (h : Rel w0 R0 F0 gh E.G n Fr R σ fps st a w) {o : Oper} (hd : dstOk n o.dst) {x : Operand} (ho : o.op = .entry x) {p : Prop} {e : Eff} (he : eff E st o.op = some (p, e)) (hp : p) : Out P E w0 R0 F0 gh n Fr st o a w e := by
  rw [ho] at he
  simp only [eff] at he
  have hx := ev_V h x
  unfold entryE at he
  split at he
  case h_2 => cases he
  rename_i r hex
  split at he
  case h_2 => cases he
  rename_i cs sz1 vs es hr
  split at he
  case isFalse => cases he
  rename_i hfl
  simp only [Option.some.injEq, Prod.mk.injEq] at he
  obtain ⟨_, rfl⟩ := he
  rw [hex] at hx
  obtain ⟨hh, bs, os, f, k1, hu, hm, hts, hfp⟩ := map_root h hx hr
  have hm0 := hm
  simp only [MapAt] at hm
  obtain ⟨b, m, ea, clock, seen, en, hhdr, hbs, hb, hbm, hen, hos, hlt, hnb⟩ := hm
  rw [hhdr] at hu
  rw [hos, kvs_cons] at hts
  simp only [Ts] at hts
  obtain ⟨u, us', f1, f2, hh1, hk, ⟨u2, us2, f3, f4, hh3, hv0, hrest, rfl⟩, rfl⟩ := hts
  simp only [List.cons.injEq] at hh1
  obtain ⟨rfl, rfl⟩ := hh1
  simp only [List.cons.injEq] at hh3
  obtain ⟨rfl, rfl⟩ := hh3
  have hf1 : f1 = [] := by
    simp only [V] at hk
    obtain ⟨ys, _, hys⟩ := hk
    exact flatCs_nil hfl hys
  subst hf1
  intro hFF
  have hF : Fr st.next := hFF _ (Nat.le_refl _) (Nat.lt_succ_self _)
  have hrne : r ≠ st.next := by rintro rfl; rw [(h.fr _ hF).2] at hr; cases hr
  have hle := Le_new h hF (some ⟨en.val, sz1⟩)
  have hone : en.val.oneCell' = true := by
    simp only [V] at hv0
    obtain ⟨us, fp', hrow, _⟩ := hv0
    obtain ⟨A, cc, hv, _⟩ := hrow.form
    rw [hv]; rfl
  let fpN : Nat → List Nat := fun q => if q = r then bs ++ f4 else f3
  have hN1 : fpN r = bs ++ f4 := by simp [fpN]
  have hN2 : fpN st.next = f3 := by simp [fpN, Ne.symm hrne]
  have hnd := h.nd r
  rw [hfp] at hnd
  have hsub : ∀ b, b ∈ fpN r ∨ b ∈ fpN st.next → b ∈ fps r := fun b hb => by
    rw [hfp]
    rw [hN1, hN2] at hb
    simp at hb ⊢
    rcases hb with (hb | hb) | hb <;> simp [hb]
  have hres := h.change (w' := w) (R' := R) (σ' := upd σ st.next (some ⟨en.val, sz1⟩)) (e := ⟨.tup [.agg cs, .own st.next], [], [(r, ⟨.mp 2 (.agg cs :: .undef :: es), []⟩), (st.next, ⟨.slo sz1 vs, []⟩)], st.next + 1⟩) (dst := o.dst) (u := .tuple #[en.key, en.val]) hd fpN
    (by simp [hrne]) (fun _ h => h) (fun b hb => ⟨(h.Rb b hb).1, .inl hb⟩) hle (fun _ _ => rfl) (fun _ _ _ _ _ => rfl)
    (by
      intro q y hy
      simp only [List.mem_cons, Prod.mk.injEq, List.not_mem_nil, or_false] at hy
      rcases hy with ⟨rfl, rfl⟩ | ⟨rfl, rfl⟩
      · refine ⟨hh, hle _ _ k1, ?_, trivial⟩
        rw [hN1]
        simp only [V]
        refine ⟨bs, os, f4, hm0, ?_, rfl⟩
        rw [hos, kvs_cons]
        simp only [Ts]
        exact ⟨_, _, [], f4, rfl, V.mono (fun _ h => h) hle (fun _ _ => rfl) _ _ _ (fun _ _ => rfl) hk, ⟨_, _, [], f4, rfl, by simp [V], Ts.mono (fun _ h => h) hle (fun _ _ => rfl) _ _ _ (fun _ _ => rfl) hrest, rfl⟩, rfl⟩
      · exact ⟨_, upd_same _ _ _, by rw [hN2]; exact V.mono (fun _ h => h) hle (fun _ _ => rfl) _ _ _ (fun _ _ => rfl) hv0, rfl⟩)
    (by
      simp only [List.map_cons, List.map_nil, List.flatMap_cons, List.flatMap_nil, List.append_nil, hN1, hN2]
      have p1 : (bs ++ f4 ++ f3).Perm (bs ++ ([] ++ (f3 ++ f4))) := by
        simp only [List.append_assoc, List.nil_append]
        exact List.Perm.append_left _ List.perm_append_comm
      exact p1.nodup_iff.2 hnd)
    (by
      intro q hq b hb
      simp only [List.map_cons, List.map_nil, List.mem_cons, List.not_mem_nil, or_false] at hq
      have hbr : b ∈ fps r := hsub b (by rcases hq with rfl | rfl <;> simp [hb])
      obtain ⟨z1, z2, _⟩ := h.fb r b hbr
      exact ⟨z1, z2, .inl ⟨r, by simp, hbr⟩⟩)
    (fun _ _ _ => rfl) (Nat.le_refl _) (.refl _) rfl rfl
    (by
      intro q hq
      have : q ≠ st.next := by rintro rfl; exact hq.2 ⟨Nat.le_refl _, Nat.lt_succ_self _⟩
      rw [upd_other _ _ _ this]
      exact (h.fr q hq.1).1)
    (by
      intro q hq
      simp only [List.map_cons, List.map_nil, List.mem_cons, List.not_mem_nil, or_false] at hq
      rcases hq with rfl | rfl
      · exact .inl ⟨hh, k1⟩
      · exact .inr ⟨Nat.le_refl _, Nat.lt_succ_self _⟩)
    (by
      simp only [V]
      refine ⟨[en.key, en.val], rfl, ?_⟩
      simp only [Ts]
      exact ⟨_, _, [], [], rfl, V.mono (fun _ h => h) hle (fun _ _ => rfl) _ _ _ (fun _ _ => rfl) hk, ⟨_, _, [], [], rfl, by simp only [V]; exact ⟨trivial, _, upd_same _ _ _, rfl, hone⟩, ⟨rfl, rfl⟩, rfl⟩, rfl⟩)
  refine ⟨.value (.tuple #[en.key, en.val]), _, w, R, _, _, ?_, .inl rfl, hres⟩
  have hf : ea.find? (·.born == en.born) = some en := by rw [← Array.find?_toList]; exact find_born en ea.toList hnb hen
  have hg1 : (getObj b).run P w = .ok (.mapIter (some m) clock (seen.push en.born) clock) w := by simp [getObj, Sem.run, hb]
  have hg2 : (getObj m).run P w = .ok (.map ea clock) w := MapKept.run_getObj_map hbm
  simp [execOp, ho, hu, Instr.entry, hg1, hg2, Array.back?_push, hf, Result.andThen]
end
end Go.Proofs.YtmanllfmgghadaaGreatDoor.PVE
namespace Go.Proofs.YtmanllfmgghadaaGreatDoor.PVE
open PV
section
variable {P : Program} {E : Env} {w0 : World} {R0 : Nat → Prop} {F0 : List Nat} {gh : Nat → Value} {n : Nat} {Fr : Nat → Prop} {R : Nat → Prop} {σ : Nat → Option Hd} {fps : Nat → List Nat} {st : St} {a : Act} {w : World} [Dm]
theorem Ts.at {cs : List PV} {us : List Value} (h : Ts w R σ cs us []) {k : Nat} {c : PV} (hc : cs[k]? = some c) : ∃ u, us[k]? = some u ∧ V w R σ c u [] := by
  induction cs generalizing us k with
  | nil => simp at hc
  | cons x cs ih =>
    simp only [Ts] at h
    obtain ⟨u, us', f1, f2, rfl, hv, hts, hf⟩ := h
    obtain ⟨rfl, rfl⟩ : f1 = [] ∧ f2 = [] := by simpa using hf.symm
    cases k with
    | zero => simp at hc; subst hc; exact ⟨u, rfl, hv⟩
    | succ k => simp at hc; obtain ⟨u', h1, h2⟩ := ih hts hc; exact ⟨u', by simpa using h1, h2⟩
theorem roLeaf_sound (h : Rel w0 R0 F0 gh E.G n Fr R σ fps st a w) {x v : PV} {u : Value} {l : List Nat} (he : roLeaf st.store x = some (v, l)) (hx : V w R σ x u []) : V w (addR R (l.flatMap fps)) σ v u [] := by
  have plain : ∀ {y : PV}, V w R σ y u [] → V w (addR R (([] : List Nat).flatMap fps)) σ y u [] := fun hy => V.mono (fun b hb => .inl hb) (Le.refl _) (fun _ _ => rfl) _ _ _ (by simp) hy
  cases x with
  | own r =>
    simp only [roLeaf] at he
    cases hf : foldR st.store 4 r with
    | none => simp [hf] at he
    | some y =>
      obtain ⟨pv, l'⟩ := y
      simp only [hf, Option.map_some, Option.some.injEq, Prod.mk.injEq] at he
      obtain ⟨rfl, rfl⟩ := he
      obtain ⟨k, f, hk, hV, hty, hp⟩ := fold_sound h 4 r _ _ hf
      simp only [V] at hx
      obtain ⟨_, k', hk', rfl, _⟩ := hx
      obtain rfl : k = k' := by rw [hk] at hk'; exact Option.some.inj hk'
      exact V.mono (R := addR R f) (fun b hb => by rcases hb with hb | hb; exact .inl hb; exact .inr (hp.mem_iff.1 hb)) (Le.refl _) (fun _ _ => rfl) _ _ _ (by simp) (strip_V _ _ _ hV)
  | addr r i off =>
    simp only [roLeaf] at he
    split at he
    case h_2 => cases he
    rename_i pv l' hf
    split at he
    case h_2 =>
      split at he
      case h_2 => cases he
      rename_i cs hel
      split at he
      case isFalse => cases he
      rename_i hc0
      obtain ⟨rfl, hoff⟩ := hc0
      simp only [Option.some.injEq, Prod.mk.injEq] at he
      obtain ⟨rfl, rfl⟩ := he
      obtain ⟨k, f, hk, hV, hty, hp⟩ := fold_sound h 4 r _ _ hf
      simp only [RootTy] at hty
      obtain ⟨b', hb'⟩ := hty
      simp only [V] at hx hV
      obtain ⟨_, k', b, hk', hb, rfl⟩ := hx
      obtain rfl : k = k' := by rw [hk] at hk'; exact Option.some.inj hk'
      obtain ⟨_, ad, us, hu, hR, hc, hcs⟩ := hV
      rw [hb'] at hb hu
      simp only [blkOf, Option.some.injEq] at hb
      simp only [Value.pointer.injEq, Option.some.injEq] at hu
      subst hb hu
      simp only [V]
      refine ⟨trivial, _, us.drop off, rfl, .inl hR, fun j u hj => ?_, Cs.mono (fun b hb => .inl hb) (Le.refl _) (fun _ _ => rfl) _ _ _ (by simp) (hcs.drop_ _)⟩
      rw [List.getElem?_drop] at hj
      have := hc _ u hj
      rw [add_lit'] at this ⊢
      simpa [Nat.add_assoc] using this
    rename_i e hel
    split at he
    case isFalse => cases he
    rename_i hoff
    simp only [Option.some.injEq, Prod.mk.injEq] at he
    obtain ⟨rfl, rfl⟩ := he
    obtain ⟨k, f, hk, hV, hty, hp⟩ := fold_sound h 4 r _ _ hf
    simp only [V] at hx
    obtain ⟨_, k', b, hk', hb, rfl⟩ := hx
    obtain rfl : k = k' := by rw [hk] at hk'; exact Option.some.inj hk'
    obtain ⟨b', cur, et, lo, hi', f1, f0, f2, old, m1, m2, m3, m4, m5, m6, m7, m8, m9, _⟩ := focus hV hty hel (m := e.cells.length - off) (show off + (e.cells.length - off) ≤ e.cells.length by omega) (show 0 < e.cells.length - off by omega)
    obtain rfl : b = b' := by rw [hb] at m1; exact Option.some.inj m1
    have hall : (e.cells.drop off).take (e.cells.length - off) = e.cells.drop off := List.take_of_length_le (by simp)
    rw [hall] at m7
    have hfm : ∀ c, c ∈ f → c ∈ l'.flatMap fps := fun c hc => hp.mem_iff.1 hc
    simp only [V]
    refine ⟨trivial, _, old, rfl, .inr (hfm b (by rw [m6]; simp)), fun j u hu => ?_, ?_⟩
    · exact cur_cells m2 m5 m8 j u hu
    · exact Cs.mono (R := addR R f0) (fun c hc => by rcases hc with hc | hc; exact .inl hc; exact .inr (hfm c (by rw [m6]; simp [hc]))) (Le.refl _) (fun _ _ => rfl) _ _ _ (by simp) (strip_Cs _ _ _ m7)
  | nilS =>
    simp only [roLeaf, Option.some.injEq, Prod.mk.injEq] at he
    obtain ⟨rfl, rfl⟩ := he
    simp only [V] at hx ⊢
    exact ⟨trivial, none, 0, [], 0, hx.1, by simp, by simp, by simp, by simp [Es]⟩
  | slo sz es =>
    simp only [roLeaf, Option.some.injEq, Prod.mk.injEq] at he
    obtain ⟨rfl, rfl⟩ := he
    exact V.mono (R := addR R []) (fun b hb => by rcases hb with hb | hb; exact .inl hb; exact .inr (by simp at hb)) (Le.refl _) (fun _ _ => rfl) _ _ _ (by simp) (strip_V _ _ _ hx)
  | undef => simp [roLeaf] at he
  | vw r x0 y0 =>
    simp only [roLeaf] at he
    split at he
    case h_2 => cases he
    rename_i sz es l' hf
    simp only [Option.some.injEq, Prod.mk.injEq] at he
    obtain ⟨rfl, rfl⟩ := he
    obtain ⟨k, f, hk, hV, hty, hp⟩ := fold_sound h 4 r _ _ hf
    have hS := V.mono (R := addR R f) (R' := addR R (l'.flatMap fps)) (fun b hb => by rcases hb with hb | hb; exact .inl hb; exact .inr (hp.mem_iff.1 hb)) (Le.refl _) (fun _ _ => rfl) _ _ _ (by simp) (strip_V _ _ _ hV)
    simp only [V] at hx
    obtain ⟨_, k', A, m', c, B, c', hk', hhv, r1, r2, rfl, r3, r4, r5⟩ := hx
    obtain rfl : k = k' := by rw [hk] at hk'; exact Option.some.inj hk'
    have hlen0 : (stripL es).length = es.length := by rw [stripL_eq]; simp
    simp only [PV.strip, V] at hS
    obtain ⟨_, A1, c1, us, sz1, hform, hf1, hf2, hcell, hes⟩ := hS
    rw [hhv] at hform
    simp only [Value.slice.injEq] at hform
    obtain ⟨rfl, hm, rfl⟩ := hform
    simp only [V] at hV
    obtain ⟨us0, fp0, hrow0, hes0, _⟩ := hV
    simp only [RootTy] at hty
    have hlen : (((stripL es).drop x0).take (y0 - x0)).length = y0 - x0 := by simp; omega
    have hcut := hes.cut_ x0 y0 rfl
    simp only [V]
    refine ⟨trivial, B, c', (us.drop (x0 * sz1)).take ((y0 - x0) * sz1), sz1, by rw [hlen], by rw [hlen]; exact r3, r4, ?_, hcut⟩
    rw [hlen]
    intro hn
    have hes1 : sz1 = sz := by
      have hne : es ≠ [] := by rintro rfl; simp [stripL] at hlen0 hm; omega
      have a1 := hes.length
      have a2 := strip_Es _ _ _ _ hes0
      have a3 := a2.length
      cases es with
      | nil => exact absurd rfl hne
      | cons e es =>
        simp only [stripL, Es] at hes a2
        obtain ⟨v1, _, _, _, _, s1, o1, u1, w1, _⟩ := hes
        obtain ⟨v2, _, _, _, _, s2, o2, u2, w2, _⟩ := a2
        have b1 := (V.cellsOf w1 o1 u1).length
        have b2 := (V.cellsOf w2 o2 u2).length
        rw [Array.length_toList] at b1 b2
        omega
    subst hes1
    obtain ⟨ad, h5, h6, h7⟩ := hcell (by omega)
    rw [h5] at r5
    refine ⟨ad.add (x0 * k.sz), r5 (by omega), by rw [add_block]; exact h6, fun j u hu => ?_⟩
    rw [List.getElem?_take] at hu
    split at hu
    · rw [List.getElem?_drop] at hu
      rw [add_add', ← hty]; exact h7 _ u hu
    · cases hu
  | _ =>
    simp only [roLeaf, Option.some.injEq, Prod.mk.injEq] at he
    obtain ⟨rfl, rfl⟩ := he
    exact plain hx
theorem out_builtin (hT : TyOk P E.T) (h : Rel w0 R0 F0 gh E.G n Fr R σ fps st a w) {o : Oper} (hd : dstOk n o.dst) {c : Call} (ho : o.op = .call c) {p : Prop} {e : Eff} (he : eff E st o.op = some (p, e)) (hp : p) : Out P E w0 R0 F0 gh n Fr st o a w e := by
  rw [ho] at he
  simp only [eff] at he
  have hrun : ∀ {b : Builtin} {l : List Operand}, c.callee = .builtin b → c.args.toList = l → ∃ fl : Array Bool, (execOp a.eval o).run P w = (builtin b c.argTypes o.type fl (l.map a.eval).toArray).run P w := by
    intro b l hc hl
    have : c.args = l.toArray := by rw [← Array.toArray_toList (xs := c.args), hl]
    exact ⟨_, by simp only [execOp, ho, resolve, hc, invoke, Sem.run_bind, Sem.run_pure, Result.andThen_ok, this, List.map_toArray]; rfl⟩
  split at he
  · -- len
    rename_i x hc hl
    have hx := ev_V h x
    obtain ⟨fl, hr⟩ := hrun hc hl
    have key : ∀ {t : Nat} {m : Int}, (Builtin.len_ c.argTypes o.type #[a.eval x]).run P w = .ok (goInt m) w → (execOp a.eval o).run P w = .ok (.value (.int .i64 m)) w := by
      intro t m hh
      rw [hr]
      simp only [builtin, List.map_cons, List.map_nil, Sem.run_bind, hh, Result.andThen_ok, Sem.run_pure, goInt]
    cases hat : c.argTypes[0]? with
    | none => simp [hat] at he
    | some t =>
      simp only [hat, Option.bind_some] at he
      split at he
      · rename_i sz b0 z0 hTt
        have ht : P.underlying t = some .string := (hT t _ hTt).1
        cases hev : ev E st x <;> rw [hev] at he hx <;> simp only [lenStrE] at he <;> try (cases he; done)
        rename_i s
        simp only [V] at hx
        refine out_plain h hd he (u := .int .i64 s.length) (by simp [V]) (key (t := 0) ?_)
        have hs : (ByteArray.mk s.toArray).size = s.length := by simp [ByteArray.size]
        simp [Builtin.len_, hat, hx.1, run_underlying ht, hs]
      · rename_i el sz b0 z0 hTt
        have ht : P.underlying t = some (.slice el) := (hT t _ hTt).1
        cases hev : ev E st x <;> rw [hev] at he hx <;> simp only [lenE] at he <;> try (cases he; done)
        · simp only [V] at hx
          refine out_plain h hd he (by simp [V]; rfl) (key (t := 0) ?_)
          simp [Builtin.len_, hat, hx.1, run_underlying ht]
        · simp only [V] at hx
          obtain ⟨_, A, cap, us, sz', hxv, _⟩ := hx
          refine out_plain h hd he (by simp [V]; rfl) (key (t := 0) ?_)
          simp [Builtin.len_, hat, hxv, run_underlying ht]
        · rename_i r
          split at he
          case h_3 => cases he
          · rename_i sz' es links hr'
            obtain ⟨kk, q1, q2, q3⟩ := h.rt r _ hr'
            simp only [V] at hx q2
            obtain ⟨_, k', hk', hxv, _⟩ := hx
            obtain rfl : kk = k' := by rw [q1] at hk'; exact Option.some.inj hk'
            obtain ⟨us, fp', hrow, _⟩ := q2
            obtain ⟨A, cc, hh, _⟩ := hrow.form
            refine out_plain h hd he (by simp [V]; rfl) (key (t := 0) ?_)
            simp [Builtin.len_, hat, hxv, hh, run_underlying ht]
          · rename_i es links hr'
            obtain ⟨kk, q1, q2, q3⟩ := h.rt r _ hr'
            simp only [V] at hx q2
            obtain ⟨_, k', hk', hxv, _⟩ := hx
            obtain rfl : kk = k' := by rw [q1] at hk'; exact Option.some.inj hk'
            obtain ⟨_, A, cc, us, sz1, hh, _⟩ := q2
            refine out_plain h hd he (by simp [V]; rfl) (key (t := 0) ?_)
            simp [Builtin.len_, hat, hxv, hh, run_underlying ht]
        · simp only [V] at hx
          obtain ⟨_, k', A, m', c', B, c2, _, _, _, _, hxv, _⟩ := hx
          refine out_plain h hd he (by simp [V]; rfl) (key (t := 0) ?_)
          simp [Builtin.len_, hat, hxv, run_underlying ht]
      · cases he
  · -- append
    rename_i s x hc hl
    split at he
    case h_2 => cases he
    rename_i t u hat
    split at he
    case isFalse => cases he
    rename_i htu
    subst htu
    split at he
    case h_2 => cases he
    rename_i el sz b0 z0 hTt
    split at he
    case h_2 => cases he
    rename_i ti hTe
    have hat' : c.argTypes = #[t, t] := by rw [← Array.toArray_toList (xs := c.argTypes), hat]
    exact out_append hT h hd ho hc hl hat' hTt hTe he hp
  · -- min
    rename_i x y hc hl
    have hx := ev_V h x
    have hy := ev_V h y
    split at he
    case h_2 => cases he
    rename_i k A k' B hex hey
    rw [hex] at hx
    rw [hey] at hy
    simp only [V] at hx hy
    refine out_plain h hd he (u := .int k (if B < A then B else A)) (by simp [V]) ?_
    obtain ⟨fl, hr⟩ := hrun hc hl
    rw [hr]
    simp only [builtin, List.map_cons, List.map_nil, hx.1, hy.1, Sem.run_bind, run_min_int2, Result.andThen_ok, Sem.run_pure]
  · cases he
theorem out_storeV (hT : TyOk P E.T) (h : Rel w0 R0 F0 gh E.G n Fr R σ fps st a w) {o : Oper} (hd : dstOk n o.dst) {t : Nat} {x y : Operand} (ho : o.op = .store t x y) {q x0 y0 : Nat} (hvy : ev E st y = .vw q x0 y0) {p : Prop} {e : Eff} (he : eff E st o.op = some (p, e)) (hp : p) : Out P E w0 R0 F0 gh n Fr st o a w e := by
  rw [ho] at he
  simp only [eff] at he
  split at he
  case h_2 => cases he
  rename_i i hi
  have hx := ev_V h x
  have hy := ev_V h y
  rw [hvy] at hy he
  obtain ⟨_, ti, z, g1, g2, g3, g4, g5, g6, g7, g8, g9⟩ := hT t i hi
  cases hev : ev E st x <;> rw [hev] at he hx <;> simp only [storeE, storeX] at he <;> try (cases he; done)
  rename_i r k off
  unfold storeV at he
  split at he
  case h_2 => cases he
  rename_i rt c rem hr hro
  split at he
  · cases he
  rename_i el hel
  split at he
  case isFalse => cases he
  rename_i hcond
  obtain ⟨hsz, hcl, hnd⟩ := hcond
  simp only [Option.some.injEq, Prod.mk.injEq] at he
  obtain ⟨_, rfl⟩ := he
  obtain ⟨hh, b, k1, k2, hu, k3, k4⟩ := addr_root h hx hr
  obtain ⟨b', cur, et, lo, hi', f1, f0, f2, old, m1, m2, m3, m4, m5, m6, m7, m8, m9, hput⟩ := focus k3 k4 hel hsz g6
  obtain rfl : b = b' := by rw [k2] at m1; exact Option.some.inj m1
  have hvc := roLeaf_sound h hro hy
  obtain ⟨es', rfl⟩ : ∃ es', c = .sl es' := by
    simp only [roLeaf] at hro
    split at hro
    · simp only [Option.some.injEq, Prod.mk.injEq] at hro
      exact ⟨_, hro.1.symm⟩
    · cases hro
  have hone : (a.eval y).oneCell' = true := by
    simp only [V] at hy
    obtain ⟨_, _, _, _, _, B, c', _, _, _, _, hv, _⟩ := hy
    rw [hv]; rfl
  have hcells : (a.eval y).cells = #[a.eval y] := oneCell_cells hone
  have hnd' := List.nodup_cons.1 hnd
  let w' := w.setRow b (putAt cur.toList (k * hh.sz + off) [a.eval y]).toArray
  have hoth : ∀ c, c ≠ b → w'.heap[c]? = w.heap[c]? := fun c hc => setRow_other w b c _ hc
  have hbr : b ∈ fps r := by rw [m6]; simp
  have hRr : ∀ c ∈ fps r, ¬ addR R (rem.flatMap fps) c := by
    rintro c hc (hb | hb)
    · exact (h.fb r c hc).2.1 hb
    · obtain ⟨q, hq, hbq⟩ := List.mem_flatMap.1 hb
      exact h.dj r q (by rintro rfl; exact hnd'.1 hq) c hc hbq
  have hbR : ¬ addR R (rem.flatMap fps) b := hRr b hbr
  have hcs' : Cs w' (addR R (rem.flatMap fps)) σ [.sl es'] [a.eval y] [] := by
    simp only [Cs]
    exact ⟨_, [], [], [], rfl, hone, V.mono (fun _ h => h) (Le.refl _) (fun c hc => hoth c (by rintro rfl; exact hbR hc)) _ _ _ (by simp) hvc, ⟨rfl, rfl⟩, rfl⟩
  have hnd6 : (b :: f1 ++ f0 ++ f2).Nodup := by rw [← m6]; exact h.nd r
  have hV := hput (w' := w') (R' := addR R (rem.flatMap fps)) (σ' := σ) (fun _ h => .inl h) (Le.refl _) (fun c hc => hoth c (by rintro rfl; exact hbR (.inl hc))) (fun c hc => hoth c (by
      rintro rfl
      simp only [List.cons_append, List.nodup_cons] at hnd6
      exact hnd6.1 (by simp at hc ⊢; rcases hc with hc | hc <;> simp [hc])))
    (setRow_heap w b cur _ et _ m2) hcs' hcl (.inr (by simp))
  have hrun : (execOp a.eval o).run P w = .ok .skip w' := by
    have hsc := run_storeRow (P := P) b (k * hh.sz + off) et lo hi' [a.eval y] 0 cur w m2 m3 (by simp; omega) (by simpa using hone)
    simp only [Nat.add_zero] at hsc
    have hne : (a.eval y).cells.size = ti.size := by rw [g3, hcells]; exact hcl
    have hcl2 : (a.eval y).cells.toList = [a.eval y] := by rw [hcells]
    simp only [execOp, ho, Sem.run_bind, hu, Instr.storeAt, Instr.sureAddr, storeVar, sizeOf, typeInfo, run_program, Result.andThen_ok, g1, Sem.run_pure, hne, ne_eq, not_true_eq_false, if_false, hcl2, hsc]
    rfl
  have hsub : ∀ c, c ∈ f1 ∨ c ∈ f2 → c ∈ fps r := fun c hc => by rw [m6]; simp; rcases hc with hc | hc <;> simp [hc]
  have hin : ∀ c, c ∈ b :: f1 ++ [] ++ f2 → c ∈ fps r := fun c hc => by
    simp only [List.append_nil, List.cons_append, List.mem_cons, List.mem_append] at hc
    rcases hc with rfl | hc | hc
    · exact hbr
    · exact hsub c (.inl hc)
    · exact hsub c (.inr hc)
  have hres := h.change (w' := w') (R' := addR R (rem.flatMap fps)) (σ' := σ) (e := ⟨.void, rem, [(r, ⟨rt.pv.put k off [.sl es'], rt.links.filter fun l => !(l.1 == k && off ≤ l.2 && l.2 < off + i.size)⟩)], st.next⟩) (dst := o.dst) (u := Go.undef) hd (fun _ => b :: f1 ++ [] ++ f2)
    (by simp) (fun _ h => .inl h) (fun c hc => by
      rcases hc with hc | hc
      · exact ⟨by rw [setRow_size]; exact (h.Rb c hc).1, .inl hc⟩
      · obtain ⟨q, hq, hcq⟩ := List.mem_flatMap.1 hc
        exact ⟨by rw [setRow_size]; exact (h.fb q c hcq).1, .inr (.inl ⟨q, by simp [hq], hcq⟩)⟩) (Le.refl _) (fun c hc => hoth c (by rintro rfl; exact hbR (.inl hc)))
    (by
      intro q hq hq' c hc
      refine hoth c ?_
      rintro rfl
      exact h.dj r q (by rintro rfl; exact hq' (by simp)) c hbr hc)
    (by
      intro q x hx
      simp only [List.mem_singleton, Prod.mk.injEq] at hx
      obtain ⟨rfl, rfl⟩ := hx
      exact ⟨hh, k1, hV, put_ty k4 _ _⟩)
    (by
      simp only [List.map_cons, List.map_nil, List.flatMap_cons, List.flatMap_nil, List.append_nil]
      refine List.Sublist.nodup ?_ hnd6
      rw [List.append_assoc]
      exact List.Sublist.append_left (List.sublist_append_right _ _) _)
    (by
      intro q hq c hc
      have hcr := hin c hc
      obtain ⟨z1, z2, _⟩ := h.fb r c hcr
      exact ⟨by rw [setRow_size]; exact z1, hRr c hcr, .inl ⟨r, by simp, hcr⟩⟩)
    (by
      intro c h1 h2
      refine hoth c ?_
      rintro rfl
      rcases (h.fb r c hbr).2.2 with h3 | h3
      · exact h2 h3
      · omega)
    (by rw [setRow_size]; exact Nat.le_refl _) ⟨rfl, fun _ => Nat.le_refl _⟩ rfl rfl (fun q hq => (h.fr q hq.1).1) (by simp; exact .inl ⟨_, k1⟩) (by simp [V, Go.undef])
  exact fun _ => ⟨_, _, w', _, σ, _, hrun, .inr ⟨rfl, rfl⟩, hres⟩
theorem eff_sound (hT : TyOk P E.T) (hS : SOk P E.S) (h : Rel w0 R0 F0 gh E.G n Fr R σ fps st a w) {o : Oper} (hd : dstOk n o.dst) {p : Prop} {e : Eff} (he : eff E st o.op = some (p, e)) (hp : p) : Out P E w0 R0 F0 gh n Fr st o a w e := by
  cases hop : o.op with
  | move x =>
    have he' := he
    rw [hop] at he'
    exact out_plain h hd he' (ev_V h x) (by simp [execOp, hop])
  | assign x =>
    have he' := he
    rw [hop] at he'
    exact out_plain h hd he' (ev_V h x) (by simp [execOp, hop])
  | pick c x y =>
    have he' := he
    rw [hop] at he'
    simp only [eff] at he'
    split at he'
    case h_2 => cases he'
    rename_i t hev
    have hc := ev_V h c
    rw [hev] at hc
    simp only [V] at hc
    refine out_plain h hd he' (u := if t then a.eval x else a.eval y) ?_ ?_
    · cases t
      · exact ev_V h y
      · exact ev_V h x
    · cases t <;> simp [execOp, hop, hc.1, asBool]
  | alloc t => exact out_alloc hT h hd hop he hp
  | box t x => exact out_boxop h hd hop he hp
  | build t parts => exact out_build hT h hd hop he hp
  | buildSlice t len parts => exact out_buildSlice hT h hd hop he hp
  | load t x => exact out_load hT h hd hop he hp
  | makeMap t rv =>
    cases rv with
    | none => exact out_makeMap h hd hop he hp
    | some m => rw [hop] at he; simp [eff] at he
  | lookup t x y ok =>
    cases ok with
    | false => exact out_lookup hT hS h hd hop he hp
    | true => rw [hop] at he; simp [eff] at he
  | mapUpdate t x y z => exact out_update hT hS h hd hop he hp
  | range t x => exact out_range hT h hd hop he hp
  | entry x => exact out_entry h hd hop he hp
  | store t x y =>
    by_cases hv : ∃ q x0 y0, ev E st y = .vw q x0 y0
    · obtain ⟨q, x0, y0, hv⟩ := hv
      exact out_storeV hT h hd hop hv he hp
    · exact out_store hT h hd hop (fun q x0 y0 he => hv ⟨q, x0, y0, he⟩) he hp
  | nilCheck x =>
    have he' := he
    rw [hop] at he'
    simp only [eff] at he'
    have hx := ev_V h x
    split at he'
    · rename_i cs hev
      rw [hev] at hx
      refine out_plain h hd he' hx ?_
      simp only [V] at hx
      obtain ⟨_, ad, us, hxv, _⟩ := hx
      simp [execOp, hop, hxv]
    · rename_i r i o' hev
      rw [hev] at hx
      refine out_plain h hd he' hx ?_
      simp only [V] at hx
      obtain ⟨_, hh, b, _, _, hxv⟩ := hx
      simp [execOp, hop, hxv]
    · rename_i f cs hev
      rw [hev] at hx
      refine out_plain h hd he' hx ?_
      simp only [V] at hx
      obtain ⟨us, hxv, _⟩ := hx
      simp [execOp, hop, hxv]
    · cases he'
  | binOp op t x y yt =>
    have he' := he
    rw [hop] at he'
    simp only [eff] at he'
    split at he'
    case h_2 => cases he'
    rename_i q v hb
    simp only [Option.some.injEq, Prod.mk.injEq] at he'
    obtain ⟨rfl, rfl⟩ := he'
    obtain ⟨z, h1, h2⟩ := bin_sound (P := P) hT hS (xo := x) (yo := y) hb hp (ev_V h x) (ev_V h y)
    refine out_val h hd h2 ?_
    simp only [execOp, hop]
    rw [Sem.run_bind, h1]; rfl
  | unOp op t x =>
    have he' := he
    rw [hop] at he'
    simp only [eff] at he'
    have hx := ev_V h x
    split at he'
    · rename_i b hev
      rw [hev] at hx
      simp only [V] at hx
      exact out_plain h hd he' (u := .bool (!b)) (by simp [V]) (by simp [execOp, hop, hx.1, unary_not])
    · rename_i k m hev
      rw [hev] at hx
      simp only [V] at hx
      exact out_plain h hd he' (u := .int k (k.wrap (0 - m))) (by simp [V]) (by simp [execOp, hop, hx.1, unary_neg, Op.intArith])
    · cases he'
  | convert src dst x => exact out_conv hT h hd hop he hp
  | slice t x lo hi mx =>
    cases mx with
    | none => exact out_slice hT h hd hop he hp
    | some m => rw [hop] at he; simp [eff] at he
  | fieldAddr t x f => exact out_fieldAddr hT h hd hop he hp
  | field t x f => exact out_field hT h hd hop he hp
  | indexAddr t x ix => exact out_indexAddr hT h hd hop he hp
  | index t x ix => exact out_index hT h hd hop he hp
  | extract x i =>
    have he' := he
    rw [hop] at he'
    simp only [eff] at he'
    have hx := ev_V h x
    split at he'
    case h_2 => cases he'
    rename_i vs hev
    split at he'
    case h_2 => cases he'
    rename_i v hvs
    rw [hev] at hx
    simp only [V] at hx
    obtain ⟨us, hxv, hts⟩ := hx
    obtain ⟨u, h1, h2⟩ := hts.at hvs
    exact out_plain h hd he' h2 (by simp [execOp, hop, hxv, Instr.extract, h1])
  | makeSlice t x y => exact out_makeSlice hT h hd hop he hp
  | makeFunc fn first caps =>
    have he' := he
    rw [hop] at he'
    simp only [eff] at he'
    split at he'
    case h_2 => cases he'
    rename_i f hfi
    have hf0 : first = #[] := by rw [← Array.toArray_toList (xs := first), hfi]
    split at he'
    case h_2 => cases he'
    rename_i cs l add hfz
    split at he'
    case isFalse => cases he'
    rename_i hnd
    simp only [Option.some.injEq, Prod.mk.injEq] at he'
    obtain ⟨_, rfl⟩ := he'
    obtain ⟨q1, q2⟩ := frz_sound h _ _ hfz (evs_Ts h _)
    have hn : ∀ m : List Nat, (m.flatMap fun _ => ([] : List Nat)) = [] := by
      intro m
      induction m with
      | nil => rfl
      | cons x m ih => simp [ih]
    refine fun _ => ⟨.value (.func (.func f) #[] (caps.toList.map a.eval).toArray), .func (.func f) #[] (caps.toList.map a.eval).toArray, w, addR R (l.flatMap fps), σ, _, ?_, .inl rfl, h.change (e := ⟨.fn f cs, l, add, st.next⟩) hd (fun _ => []) hnd (fun b hb => .inl hb) ?_ (Le.refl _) (fun _ _ => rfl) (fun _ _ _ _ _ => rfl) q2 (by rw [hn]; exact List.nodup_nil) (by simp) (fun _ _ _ => rfl) (Nat.le_refl _) (.refl _) rfl rfl (fun r hr => (h.fr r hr.1).1) ?_ ?_⟩
    · simp [execOp, hop, Instr.makeFunc, hf0]
      apply Array.ext'
      simp
    · intro b hb
      rcases hb with hb | hb
      · exact ⟨(h.Rb b hb).1, .inl hb⟩
      · obtain ⟨x, hx, hbx⟩ := List.mem_flatMap.1 hb
        exact ⟨(h.fb x b hbx).1, .inr (.inl ⟨x, by simp [hx], hbx⟩)⟩
    · intro r hr
      obtain ⟨x, hx, rfl⟩ := List.mem_map.1 hr
      obtain ⟨k, hk, _⟩ := q2 x.1 x.2 hx
      exact .inl ⟨k, hk⟩
    · simp only [V]; exact ⟨_, rfl, trivial, q1⟩
  | call c => exact out_builtin hT h hd hop he hp
  | _ => rw [hop] at he; simp [eff] at he
end
end Go.Proofs.YtmanllfmgghadaaGreatDoor.PVE
