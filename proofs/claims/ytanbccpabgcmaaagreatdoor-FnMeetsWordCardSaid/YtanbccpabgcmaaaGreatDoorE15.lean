/- The PV engine, part 15: calls of Go functions. -/
import Derived.Test.YtanbccpabgcmaaaGreatDoorE14
set_option linter.unusedVariables false
set_option linter.unusedSimpArgs false
set_option linter.unusedSectionVars false
namespace Go.Proofs.YtanbccpabgcmaaaGreatDoor.PVE
open PV

section
variable {P : Program} {E : Env} {w0 : World} {R0 : Nat → Prop} {F0 : List Nat} {gh : Nat → Value} {n : Nat} {Fr : Nat → Prop} {R : Nat → Prop} {σ : Nat → Option Hd} {fps : Nat → List Nat} {st : St} {a : Act} {w : World}

/-! ### Without handles the roots' numbers don't matter -/
mutual
theorem V.free {σ' : Nat → Option Hd} : ∀ (pv : PV) (v : Value) (f : List Nat), pv.free → V w R σ pv v f → V w R σ' pv v f
  | .undef, _, _, _, h | .void, _, _, _, h | .bool _, _, _, _, h | .int _ _, _, _, _, h | .str _, _, _, _, h | .lit _, _, _, _, h | .nilS, _, _, _, h | .ifc, _, _, _, h => by
    simpa only [V] using h
  | .sl es, v, f, hf, h => by
    simp only [V] at h ⊢
    obtain ⟨rfl, A, cap, us, sz, h1, h2, h3, h4, h5⟩ := h
    exact ⟨rfl, A, cap, us, sz, h1, h2, h3, h4, Es.free sz es us [] hf h5⟩
  | .slo sz es, v, f, hf, h => by
    simp only [V] at h ⊢
    obtain ⟨us, fp', h1, h2, h3⟩ := h
    exact ⟨us, fp', h1, Es.free sz es us fp' hf h2, h3⟩
  | .agg cs, v, f, hf, h => by
    simp only [V] at h ⊢
    obtain ⟨us, h1, h2⟩ := h
    exact ⟨us, h1, Cs.free cs us f hf h2⟩
  | .pro cs, v, f, hf, h => by
    simp only [V] at h ⊢
    obtain ⟨h0, ad, us, h1, h2, h3, h4⟩ := h
    exact ⟨h0, ad, us, h1, h2, h3, Cs.free cs us [] hf h4⟩
  | .pto cs, v, f, hf, h => by
    simp only [V] at h ⊢
    obtain ⟨b, us, e, fp', h1, h2, h3, h4⟩ := h
    exact ⟨b, us, e, fp', h1, h2, Cs.free cs us fp' hf h3, h4⟩
  | .own r, v, f, hf, h => by simp only [PV.free] at hf
  | .addr r i o, v, f, hf, h => by simp only [PV.free] at hf
  | .vw r a b, v, f, hf, h => by simp only [PV.free] at hf
  | .tup cs, v, f, hf, h => by
    simp only [V] at h ⊢
    obtain ⟨us, h1, h2⟩ := h
    exact ⟨us, h1, Ts.free cs us f hf h2⟩
  | .fn g cs, v, f, hf, h => by
    simp only [V] at h ⊢
    obtain ⟨us, h1, h2, h3⟩ := h
    exact ⟨us, h1, h2, Ts.free cs us [] hf h3⟩
theorem Cs.free {σ' : Nat → Option Hd} : ∀ (cs : List PV) (us : List Value) (f : List Nat), PV.freeL cs → Cs w R σ cs us f → Cs w R σ' cs us f
  | [], us, f, hf, h => by simpa only [Cs] using h
  | c :: cs, us, f, hf, h => by
    simp only [Cs, PV.freeL] at h hf ⊢
    obtain ⟨u, us', f1, f2, h0, h1, h2, h3, h4⟩ := h
    exact ⟨u, us', f1, f2, h0, h1, V.free c u f1 hf.1 h2, Cs.free cs us' f2 hf.2 h3, h4⟩
theorem Es.free {σ' : Nat → Option Hd} : ∀ (sz : Nat) (cs : List PV) (us : List Value) (f : List Nat), PV.freeL cs → Es w R σ sz cs us f → Es w R σ' sz cs us f
  | sz, [], us, f, hf, h => by simpa only [Es] using h
  | sz, c :: cs, us, f, hf, h => by
    simp only [Es, PV.freeL] at h hf ⊢
    obtain ⟨v, us', f1, f2, h0, h1, h2, hu, h3, h4, h5⟩ := h
    exact ⟨v, us', f1, f2, h0, h1, h2, hu, V.free c v f1 hf.1 h3, Es.free sz cs us' f2 hf.2 h4, h5⟩
theorem Ts.free {σ' : Nat → Option Hd} : ∀ (cs : List PV) (us : List Value) (f : List Nat), PV.freeL cs → Ts w R σ cs us f → Ts w R σ' cs us f
  | [], us, f, hf, h => by simpa only [Ts] using h
  | c :: cs, us, f, hf, h => by
    simp only [Ts, PV.freeL] at h hf ⊢
    obtain ⟨u, us', f1, f2, h0, h2, h3, h4⟩ := h
    exact ⟨u, us', f1, f2, h0, V.free c u f1 hf.1 h2, Ts.free cs us' f2 hf.2 h3, h4⟩
end

theorem none_le (σ : Nat → Option Hd) : Le (fun _ => none) σ := fun _ _ h => by simp at h

theorem foldR_mem {s : Nat → Option Root} {m r : Nat} {pv : PV} {l : List Nat} (he : foldR s m r = some (pv, l)) : r ∈ l := by
  cases m with
  | zero => simp [foldR] at he
  | succ m =>
    simp only [foldR] at he
    cases hs : s r with
    | none => simp [hs] at he
    | some rt =>
      simp only [hs] at he
      have main : ∀ (ls : List (Nat × Nat)) (acc : PV × List Nat), r ∈ acc.2 →
          ls.foldlM (fun acc l => match acc.1.cellAt l.1 l.2 with
            | some (.own c) => (foldR s m c).map fun x => (acc.1.put l.1 l.2 [x.1], acc.2 ++ x.2)
            | _ => some acc) acc = some (pv, l) → r ∈ l := by
        intro ls
        induction ls with
        | nil =>
          intro acc h he
          simp only [List.foldlM_nil, Option.pure_def, Option.some.injEq] at he
          subst he
          exact h
        | cons x ls ih =>
          intro acc h he
          rw [List.foldlM_cons] at he
          simp only [Option.bind_eq_bind] at he
          obtain ⟨acc', h1, h2⟩ := Option.bind_eq_some_iff.1 he
          refine ih acc' ?_ h2
          split at h1
          · rename_i c _
            cases hf : foldR s m c with
            | none => simp [hf] at h1
            | some y => simp only [hf, Option.map_some, Option.some.injEq] at h1; subst h1; simp [h]
          · simp only [Option.some.injEq] at h1; subst h1; exact h
      exact main rt.links (rt.pv, [r]) (by simp) he

/-! ### Arguments -/
theorem roLeaf_sound (h : Rel w0 R0 F0 gh E.G n Fr R σ fps st a w) {x v : PV} {u : Value} {l : List Nat} (he : roLeaf st.store x = some (v, l)) (hx : V w R σ x u []) : V w (addR R (l.flatMap fps)) σ v u [] := by
  have plain : ∀ {y : PV}, V w R σ y u [] → V w (addR R (([] : List Nat).flatMap fps)) σ y u [] := fun hy => V.mono (fun b hb => .inl hb) (Le.refl _) (fun _ _ => rfl) _ _ _ (by simp) hy
  cases x with
  | own r =>
    simp only [roLeaf] at he
    cases hf : foldR st.store 4 r with
    | none => simp [hf] at he
    | some y =>
      obtain ⟨pv, l'⟩ := y
      simp only [hf, Option.map_some, Option.some.injEq, Prod.mk.injEq] at he
      obtain ⟨rfl, rfl⟩ := he
      obtain ⟨k, f, hk, hV, hty, hp⟩ := fold_sound h 4 r _ _ hf
      simp only [V] at hx
      obtain ⟨_, k', hk', rfl, _⟩ := hx
      obtain rfl : k = k' := by rw [hk] at hk'; exact Option.some.inj hk'
      exact V.mono (R := addR R f) (fun b hb => by rcases hb with hb | hb; exact .inl hb; exact .inr (hp.mem_iff.1 hb)) (Le.refl _) (fun _ _ => rfl) _ _ _ (by simp) (strip_V _ _ _ hV)
  | addr r i off =>
    simp only [roLeaf] at he
    split at he
    case h_2 => cases he
    rename_i pv l' hf
    split at he
    case h_2 =>
      split at he
      case h_2 => cases he
      rename_i cs hel
      split at he
      case isFalse => cases he
      rename_i hc0
      obtain ⟨rfl, hoff⟩ := hc0
      simp only [Option.some.injEq, Prod.mk.injEq] at he
      obtain ⟨rfl, rfl⟩ := he
      obtain ⟨k, f, hk, hV, hty, hp⟩ := fold_sound h 4 r _ _ hf
      simp only [RootTy] at hty
      obtain ⟨b', hb'⟩ := hty
      simp only [V] at hx hV
      obtain ⟨_, k', b, hk', hb, rfl⟩ := hx
      obtain rfl : k = k' := by rw [hk] at hk'; exact Option.some.inj hk'
      obtain ⟨_, ad, us, hu, hR, hc, hcs⟩ := hV
      rw [hb'] at hb hu
      simp only [blkOf, Option.some.injEq] at hb
      simp only [Value.pointer.injEq, Option.some.injEq] at hu
      subst hb hu
      simp only [V]
      refine ⟨trivial, _, us.drop off, rfl, .inl hR, fun j u hj => ?_, Cs.mono (fun b hb => .inl hb) (Le.refl _) (fun _ _ => rfl) _ _ _ (by simp) (hcs.drop_ _)⟩
      rw [List.getElem?_drop] at hj
      have := hc _ u hj
      rw [add_lit'] at this ⊢
      simpa [Nat.add_assoc] using this
    rename_i e hel
    split at he
    case isFalse => cases he
    rename_i hoff
    simp only [Option.some.injEq, Prod.mk.injEq] at he
    obtain ⟨rfl, rfl⟩ := he
    obtain ⟨k, f, hk, hV, hty, hp⟩ := fold_sound h 4 r _ _ hf
    simp only [V] at hx
    obtain ⟨_, k', b, hk', hb, rfl⟩ := hx
    obtain rfl : k = k' := by rw [hk] at hk'; exact Option.some.inj hk'
    obtain ⟨b', cur, et, lo, hi', f1, f0, f2, old, m1, m2, m3, m4, m5, m6, m7, m8, m9, _⟩ := focus hV hty hel (m := e.cells.length - off) (show off + (e.cells.length - off) ≤ e.cells.length by omega) (show 0 < e.cells.length - off by omega)
    obtain rfl : b = b' := by rw [hb] at m1; exact Option.some.inj m1
    have hall : (e.cells.drop off).take (e.cells.length - off) = e.cells.drop off := List.take_of_length_le (by simp)
    rw [hall] at m7
    have hfm : ∀ c, c ∈ f → c ∈ l'.flatMap fps := fun c hc => hp.mem_iff.1 hc
    simp only [V]
    refine ⟨trivial, _, old, rfl, .inr (hfm b (by rw [m6]; simp)), fun j u hu => ?_, ?_⟩
    · exact cur_cells m2 m5 m8 j u hu
    · exact Cs.mono (R := addR R f0) (fun c hc => by rcases hc with hc | hc; exact .inl hc; exact .inr (hfm c (by rw [m6]; simp [hc]))) (Le.refl _) (fun _ _ => rfl) _ _ _ (by simp) (strip_Cs _ _ _ m7)
  | nilS =>
    simp only [roLeaf, Option.some.injEq, Prod.mk.injEq] at he
    obtain ⟨rfl, rfl⟩ := he
    simp only [V] at hx ⊢
    exact ⟨trivial, none, 0, [], 0, hx.1, by simp, by simp, by simp, by simp [Es]⟩
  | slo sz es =>
    simp only [roLeaf, Option.some.injEq, Prod.mk.injEq] at he
    obtain ⟨rfl, rfl⟩ := he
    exact V.mono (R := addR R []) (fun b hb => by rcases hb with hb | hb; exact .inl hb; exact .inr (by simp at hb)) (Le.refl _) (fun _ _ => rfl) _ _ _ (by simp) (strip_V _ _ _ hx)
  | undef => simp [roLeaf] at he
  | vw r x0 y0 =>
    simp only [roLeaf] at he
    split at he
    case h_2 => cases he
    rename_i sz es l' hf
    simp only [Option.some.injEq, Prod.mk.injEq] at he
    obtain ⟨rfl, rfl⟩ := he
    obtain ⟨k, f, hk, hV, hty, hp⟩ := fold_sound h 4 r _ _ hf
    have hS := V.mono (R := addR R f) (R' := addR R (l'.flatMap fps)) (fun b hb => by rcases hb with hb | hb; exact .inl hb; exact .inr (hp.mem_iff.1 hb)) (Le.refl _) (fun _ _ => rfl) _ _ _ (by simp) (strip_V _ _ _ hV)
    simp only [V] at hx
    obtain ⟨_, k', A, m', c, B, c', hk', hhv, r1, r2, rfl, r3, r4, r5⟩ := hx
    obtain rfl : k = k' := by rw [hk] at hk'; exact Option.some.inj hk'
    have hlen0 : (stripL es).length = es.length := by rw [stripL_eq]; simp
    simp only [PV.strip, V] at hS
    obtain ⟨_, A1, c1, us, sz1, hform, hf1, hf2, hcell, hes⟩ := hS
    rw [hhv] at hform
    simp only [Value.slice.injEq] at hform
    obtain ⟨rfl, hm, rfl⟩ := hform
    simp only [V] at hV
    obtain ⟨us0, fp0, hrow0, hes0, _⟩ := hV
    simp only [RootTy] at hty
    have hlen : (((stripL es).drop x0).take (y0 - x0)).length = y0 - x0 := by simp; omega
    have hcut := hes.cut_ x0 y0 rfl
    simp only [V]
    refine ⟨trivial, B, c', (us.drop (x0 * sz1)).take ((y0 - x0) * sz1), sz1, by rw [hlen], by rw [hlen]; exact r3, r4, ?_, hcut⟩
    rw [hlen]
    intro hn
    have hes1 : sz1 = sz := by
      have hne : es ≠ [] := by rintro rfl; simp [stripL] at hlen0 hm; omega
      have a1 := hes.length
      have a2 := strip_Es _ _ _ _ hes0
      have a3 := a2.length
      cases es with
      | nil => exact absurd rfl hne
      | cons e es =>
        simp only [stripL, Es] at hes a2
        obtain ⟨v1, _, _, _, _, s1, o1, u1, w1, _⟩ := hes
        obtain ⟨v2, _, _, _, _, s2, o2, u2, w2, _⟩ := a2
        have b1 := (V.cellsOf w1 o1 u1).length
        have b2 := (V.cellsOf w2 o2 u2).length
        rw [Array.length_toList] at b1 b2
        omega
    subst hes1
    obtain ⟨ad, h5, h6, h7⟩ := hcell (by omega)
    rw [h5] at r5
    refine ⟨ad.add (x0 * k.sz), r5 (by omega), by rw [add_block]; exact h6, fun j u hu => ?_⟩
    rw [List.getElem?_take] at hu
    split at hu
    · rw [List.getElem?_drop] at hu
      rw [add_add', ← hty]; exact h7 _ u hu
    · cases hu
  | _ =>
    simp only [roLeaf, Option.some.injEq, Prod.mk.injEq] at he
    obtain ⟨rfl, rfl⟩ := he
    exact plain hx

theorem roL_sound (h : Rel w0 R0 F0 gh E.G n Fr R σ fps st a w) : ∀ (cs cs' : List PV) (us : List Value) (l : List Nat), roL st.store cs = some (cs', l) → (Cs w R σ cs us [] → Cs w (addR R (l.flatMap fps)) σ cs' us []) ∧ (Ts w R σ cs us [] → Ts w (addR R (l.flatMap fps)) σ cs' us [])
  | [], cs', us, l, he => by
    simp only [roL, Option.some.injEq, Prod.mk.injEq] at he
    obtain ⟨rfl, rfl⟩ := he
    simp [Cs, Ts]
  | c :: cs, cs', us, l, he => by
    simp only [roL] at he
    split at he
    case h_2 => cases he
    rename_i c1 l1 cs1 l2 h1 h2
    simp only [Option.some.injEq, Prod.mk.injEq] at he
    obtain ⟨rfl, rfl⟩ := he
    have m1 : ∀ b, addR R (l1.flatMap fps) b → addR R ((l1 ++ l2).flatMap fps) b := fun b hb => by rcases hb with hb | hb; exact .inl hb; exact .inr (by rw [List.flatMap_append]; simp [hb])
    have m2 : ∀ b, addR R (l2.flatMap fps) b → addR R ((l1 ++ l2).flatMap fps) b := fun b hb => by rcases hb with hb | hb; exact .inl hb; exact .inr (by rw [List.flatMap_append]; simp [hb])
    constructor
    · intro hc
      simp only [Cs] at hc ⊢
      obtain ⟨u, us', f1, f2, rfl, ho, hv, hcs, hf⟩ := hc
      obtain ⟨rfl, rfl⟩ : f1 = [] ∧ f2 = [] := by simpa using hf.symm
      exact ⟨u, us', [], [], rfl, ho, V.mono m1 (Le.refl _) (fun _ _ => rfl) _ _ _ (by simp) (roLeaf_sound h h1 hv), Cs.mono m2 (Le.refl _) (fun _ _ => rfl) _ _ _ (by simp) ((roL_sound h cs cs1 us' l2 h2).1 hcs), rfl⟩
    · intro hc
      simp only [Ts] at hc ⊢
      obtain ⟨u, us', f1, f2, rfl, hv, hcs, hf⟩ := hc
      obtain ⟨rfl, rfl⟩ : f1 = [] ∧ f2 = [] := by simpa using hf.symm
      exact ⟨u, us', [], [], rfl, V.mono m1 (Le.refl _) (fun _ _ => rfl) _ _ _ (by simp) (roLeaf_sound h h1 hv), Ts.mono m2 (Le.refl _) (fun _ _ => rfl) _ _ _ (by simp) ((roL_sound h cs cs1 us' l2 h2).2 hcs), rfl⟩

theorem roArg_sound (h : Rel w0 R0 F0 gh E.G n Fr R σ fps st a w) {x v : PV} {u : Value} {l : List Nat} (he : roArg st.store x = some (v, l)) (hx : V w R σ x u []) : V w (addR R (l.flatMap fps)) σ v u [] := by
  cases x with
  | agg cs =>
    simp only [roArg] at he
    cases hr : roL st.store cs with
    | none => simp [hr] at he
    | some y =>
      simp only [hr, Option.map_some, Option.some.injEq, Prod.mk.injEq] at he
      obtain ⟨rfl, rfl⟩ := he
      simp only [V] at hx ⊢
      obtain ⟨us, rfl, hc⟩ := hx
      exact ⟨us, rfl, (roL_sound h cs _ us _ hr).1 hc⟩
  | fn g cs =>
    simp only [roArg] at he
    cases hr : roL st.store cs with
    | none => simp [hr] at he
    | some y =>
      simp only [hr, Option.map_some, Option.some.injEq, Prod.mk.injEq] at he
      obtain ⟨rfl, rfl⟩ := he
      simp only [V] at hx ⊢
      obtain ⟨us, rfl, _, hc⟩ := hx
      exact ⟨us, rfl, trivial, (roL_sound h cs _ us _ hr).2 hc⟩
  | _ => simp only [roArg] at he; exact roLeaf_sound h he hx

/-- What is told of the cells of a struct that is lent. -/
inductive CellBack (σ : Nat → Option Hd) : List Nat → List PV → List Value → List (Option Nat) → Prop
  | nil : CellBack σ [] [] [] []
  | none {l : List Nat} (c : PV) (u : Value) {cs : List PV} {us : List Value} {rs : List (Option Nat)} (h : CellBack σ l cs us rs) : CellBack σ l (c :: cs) (u :: us) (none :: rs)
  | some {l l0 : List Nat} {sz : Nat} {es : List PV} {u : Value} {cs : List PV} {us : List Value} {rs : List (Option Nat)} {r : Nat} {k : Hd} (hk : σ r = some k) (hu : u = k.hdr) (hr : r ∈ l0) (ht : sz = k.sz) (h : CellBack σ l cs us rs) : CellBack σ (l0 ++ l) (.slo sz es :: cs) (u :: us) (some r :: rs)
theorem inl_cellBack (h : Rel w0 R0 F0 gh E.G n Fr R σ fps st a w) : ∀ (cs : List PV) (us : List Value) (cs' : List PV) (l : List Nat), inl st.store cs = some (cs', l) → Cs w R σ cs us [] → CellBack σ l cs' us (ownsOf cs)
  | [], us, cs', l, he, ht => by
    simp only [inl, Option.some.injEq, Prod.mk.injEq] at he
    obtain ⟨rfl, rfl⟩ := he
    simp only [Cs] at ht
    rw [ht.1]
    exact .nil
  | c :: cs, us, cs', l, he, ht => by
    simp only [Cs] at ht
    obtain ⟨u, us', f1, f2, rfl, ho, hv, hts, hf⟩ := ht
    obtain ⟨rfl, rfl⟩ : f1 = [] ∧ f2 = [] := by simpa using hf.symm
    cases c with
    | own r =>
      simp only [inl] at he
      split at he
      · rename_i sz es lr cs'' l' hf hi
        simp only [Option.some.injEq, Prod.mk.injEq] at he
        obtain ⟨rfl, rfl⟩ := he
        obtain ⟨k, f, hk, hV, hty, hp⟩ := fold_sound h 4 r _ _ hf
        simp only [V] at hv
        obtain ⟨_, k', hk', rfl, ho⟩ := hv
        obtain rfl : k = k' := by rw [hk] at hk'; exact Option.some.inj hk'
        exact .some hk rfl (foldR_mem hf) hty (inl_cellBack h cs us' _ _ hi hts)
      · cases he
    | nilS =>
      simp only [inl] at he
      cases hi : inl st.store cs with
      | none => simp [hi] at he
      | some y =>
        simp only [hi, Option.map_some, Option.some.injEq, Prod.mk.injEq] at he
        obtain ⟨rfl, rfl⟩ := he
        exact .none _ _ (inl_cellBack h cs us' _ _ hi hts)
    | _ =>
      simp only [inl] at he
      split at he
      · cases hi : inl st.store cs with
        | none => simp [hi] at he
        | some y =>
          simp only [hi, Option.map_some, Option.some.injEq, Prod.mk.injEq] at he
          obtain ⟨rfl, rfl⟩ := he
          exact .none _ _ (inl_cellBack h cs us' _ _ hi hts)
      · cases he
/-- What is told of the arguments of a call. -/
inductive BackOk (σ : Nat → Option Hd) : List Nat → List PV → List Value → List (Option Bk) → Prop
  | nil : BackOk σ [] [] [] []
  | none (l : List Nat) {gone : List Nat} (v : PV) (u : Value) {vs : List PV} {us : List Value} {bs : List (Option Bk)} (h : BackOk σ gone vs us bs) : BackOk σ (l ++ gone) (v :: vs) (u :: us) (none :: bs)
  | some {l gone : List Nat} {v : PV} {u : Value} {vs : List PV} {us : List Value} {bs : List (Option Bk)} {r : Nat} {k : Hd} (hk : σ r = some k) (hu : u = k.hdr) (hr : r ∈ l) (ht : RootTy k v) (h : BackOk σ gone vs us bs) : BackOk σ (l ++ gone) (v :: vs) (u :: us) (some (.root r) :: bs)
  | cells {l gone : List Nat} {cs ds : List PV} {xs : List Value} {vs : List PV} {us : List Value} {bs : List (Option Bk)} (hc : CellBack σ l cs xs (ownsOf ds)) (h : BackOk σ gone vs us bs) : BackOk σ (l ++ gone) (.agg cs :: vs) (.agg xs.toArray :: us) (some (.cells (ownsOf ds)) :: bs)

theorem mkArgs_sound (h : Rel w0 R0 F0 gh E.G n Fr R σ fps st a w) : ∀ (ms : List Nat) (xs : List PV) (us : List Value) (A : Args), mkArgs st.store ms xs = some A → Ts w R σ xs us [] →
    ∃ f, Ts w (addR R (A.ro.flatMap fps)) σ A.vs us f ∧ f.Perm (A.gone.flatMap fps) ∧ BackOk σ A.gone A.vs us A.back
  | ms, [], us, A, he, ht => by
    simp only [mkArgs, Option.some.injEq] at he
    subst he
    simp only [Ts] at ht
    exact ⟨[], by simp [Ts, ht.1], by simp, by rw [ht.1]; exact .nil⟩
  | ms, x :: xs, us, A, he, ht => by
    simp only [Ts] at ht
    obtain ⟨u, us', f1, f2, rfl, hv, hts, hf⟩ := ht
    obtain ⟨rfl, rfl⟩ : f1 = [] ∧ f2 = [] := by simpa using hf.symm
    simp only [mkArgs] at he
    split at he
    · cases he
    rename_i A1 hA1
    obtain ⟨f, k1, k2, k3⟩ := mkArgs_sound h ms.tail xs us' A1 hA1 hts
    split at he
    · -- read
      split at he
      case h_2 => cases he
      rename_i v l hr
      simp only [Option.some.injEq] at he
      subst he
      have m1 : ∀ b, addR R (l.flatMap fps) b → addR R ((l ++ A1.ro).flatMap fps) b := fun b hb => by rcases hb with hb | hb; exact .inl hb; exact .inr (by rw [List.flatMap_append]; simp [hb])
      have m2 : ∀ b, addR R (A1.ro.flatMap fps) b → addR R ((l ++ A1.ro).flatMap fps) b := fun b hb => by rcases hb with hb | hb; exact .inl hb; exact .inr (by rw [List.flatMap_append]; simp [hb])
      refine ⟨f, ?_, k2, .none [] v u k3⟩
      simp only [Ts]
      exact ⟨u, us', [], f, rfl, V.mono m1 (Le.refl _) (fun _ _ => rfl) _ _ _ (by simp) (roArg_sound h hr hv), Ts.mono m2 (Le.refl _) (fun _ _ => rfl) _ _ _ (fun _ _ => rfl) k1, rfl⟩
    · -- handed over
      rename_i m hm
      split at he
      · rename_i r
        split at he
        case h_2 => cases he
        rename_i sz es l hfo
        simp only [Option.some.injEq] at he
        subst he
        obtain ⟨k, g, hk, hV, hty, hp⟩ := fold_sound h 4 r _ _ hfo
        simp only [V] at hv
        obtain ⟨_, k', hk', rfl, _⟩ := hv
        obtain rfl : k = k' := by rw [hk] at hk'; exact Option.some.inj hk'
        refine ⟨g ++ f, ?_, by rw [List.flatMap_append]; exact hp.append k2, ?_⟩
        · simp only [Ts]
          exact ⟨k.hdr, us', g, f, rfl, V.mono (fun b hb => .inl hb) (Le.refl _) (fun _ _ => rfl) _ _ _ (fun _ _ => rfl) hV, k1, rfl⟩
        · have hrl : r ∈ l := foldR_mem hfo
          by_cases hm0 : m = 0
          · simp only [hm0, if_true]; exact .some hk rfl hrl hty k3
          · simp only [hm0, if_false]; exact .none l _ _ k3
      · rename_i r
        split at he
        case h_2 => cases he
        rename_i cs l hfo
        simp only [Option.some.injEq] at he
        subst he
        obtain ⟨k, g, hk, hV, hty, hp⟩ := fold_sound h 4 r _ _ hfo
        simp only [V] at hv
        obtain ⟨_, k', b, hk', hb, rfl⟩ := hv
        obtain rfl : k = k' := by rw [hk] at hk'; exact Option.some.inj hk'
        have hhdr : k.hdr = .pointer (some ⟨b, 0, none⟩) := by
          simp only [V] at hV
          obtain ⟨b', us2, e, fp', h1, _⟩ := hV
          rw [h1] at hb ⊢
          simp [blkOf] at hb
          rw [hb]
        simp only [Nat.zero_mul, Nat.add_zero]
        rw [← hhdr]
        refine ⟨g ++ f, ?_, by rw [List.flatMap_append]; exact hp.append k2, ?_⟩
        · simp only [Ts]
          exact ⟨k.hdr, us', g, f, rfl, V.mono (fun b hb => .inl hb) (Le.refl _) (fun _ _ => rfl) _ _ _ (fun _ _ => rfl) hV, k1, rfl⟩
        · have hrl : r ∈ l := foldR_mem hfo
          by_cases hm0 : m = 0
          · simp only [hm0, if_true]; exact .some hk rfl hrl hty k3
          · simp only [hm0, if_false]; exact .none l _ _ k3
      · split at he
        · cases he
        simp only [Option.some.injEq] at he
        subst he
        simp only [V] at hv
        obtain ⟨rfl, _⟩ := hv
        refine ⟨f, ?_, k2, .none [] _ _ k3⟩
        simp only [Ts]
        exact ⟨_, us', [], f, rfl, by simp [V], k1, rfl⟩
      · rename_i cs
        split at he
        case h_2 => cases he
        rename_i cs' l hin
        simp only [Option.some.injEq] at he
        subst he
        simp only [V] at hv
        obtain ⟨xs, rfl, hc⟩ := hv
        obtain ⟨g, q1, q2, q3, q4⟩ := inl_sound h cs xs cs' l hin hc.toTs
        have hcb := inl_cellBack h cs xs cs' l hin hc
        refine ⟨g ++ f, ?_, by rw [List.flatMap_append]; exact q2.append k2, ?_⟩
        · simp only [Ts]
          exact ⟨_, us', g, f, rfl, by simp only [V]; exact ⟨xs, rfl, Cs.mono (fun b hb => .inl hb) (Le.refl _) (fun _ _ => rfl) _ _ _ (fun _ _ => rfl) q1⟩, k1, rfl⟩
        · by_cases hm0 : m = 0
          · simp only [hm0, if_true]; exact .cells hcb k3
          · simp only [hm0, if_false]; exact .none l _ _ k3
      · cases he

end
end Go.Proofs.YtanbccpabgcmaaaGreatDoor.PVE
