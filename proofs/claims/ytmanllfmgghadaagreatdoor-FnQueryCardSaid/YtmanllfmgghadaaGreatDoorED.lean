/- The PV engine, part 15: calls of Go functions. -/
import Derived.Test.YtmanllfmgghadaaGreatDoorEC
set_option linter.unusedVariables false
set_option linter.unusedSimpArgs false
set_option linter.unusedSectionVars false
namespace Go.Proofs.YtmanllfmgghadaaGreatDoor.PVE
open PV
section
variable {P : Program} {E : Env} {w0 : World} {R0 : Nat → Prop} {F0 : List Nat} {gh : Nat → Value} {n : Nat} {Fr : Nat → Prop} {R : Nat → Prop} {σ : Nat → Option Hd} {fps : Nat → List Nat} {st : St} {a : Act} {w : World} [Dm]
mutual
theorem V.free {σ' : Nat → Option Hd} : ∀ (pv : PV) (v : Value) (f : List Nat), pv.free → V w R σ pv v f → V w R σ' pv v f
  | .undef, _, _, _, h | .void, _, _, _, h | .bool _, _, _, _, h | .int _ _, _, _, _, h | .str _, _, _, _, h | .lit _, _, _, _, h | .nilS, _, _, _, h | .ifc, _, _, _, h | .any, _, _, _, h => by
    simpa only [V] using h
  | .sl es, v, f, hf, h => by
    simp only [V] at h ⊢
    obtain ⟨rfl, A, cap, us, sz, h1, h2, h3, h4, h5⟩ := h
    exact ⟨rfl, A, cap, us, sz, h1, h2, h3, h4, Es.free sz es us [] hf h5⟩
  | .slo sz es, v, f, hf, h => by
    simp only [V] at h ⊢
    obtain ⟨us, fp', h1, h2, h3⟩ := h
    exact ⟨us, fp', h1, Es.free sz es us fp' hf h2, h3⟩
  | .agg cs, v, f, hf, h => by
    simp only [V] at h ⊢
    obtain ⟨us, h1, h2⟩ := h
    exact ⟨us, h1, Cs.free cs us f hf h2⟩
  | .pro cs, v, f, hf, h => by
    simp only [V] at h ⊢
    obtain ⟨h0, ad, us, h1, h2, h3, h4⟩ := h
    exact ⟨h0, ad, us, h1, h2, h3, Cs.free cs us [] hf h4⟩
  | .pto cs, v, f, hf, h => by
    simp only [V] at h ⊢
    obtain ⟨b, us, e, fp', h1, h2, h3, h4⟩ := h
    exact ⟨b, us, e, fp', h1, h2, Cs.free cs us fp' hf h3, h4⟩
  | .own r, v, f, hf, h => by simp only [PV.free] at hf
  | .addr r i o, v, f, hf, h => by simp only [PV.free] at hf
  | .vw r a b, v, f, hf, h => by simp only [PV.free] at hf
  | .tup cs, v, f, hf, h => by
    simp only [V] at h ⊢
    obtain ⟨us, h1, h2⟩ := h
    exact ⟨us, h1, Ts.free cs us f hf h2⟩
  | .fn g cs, v, f, hf, h => by
    simp only [V] at h ⊢
    obtain ⟨us, h1, h2, h3⟩ := h
    exact ⟨us, h1, h2, Ts.free cs us [] hf h3⟩
  | .mp it es, v, f, hf, h => by
    simp only [V] at h ⊢
    obtain ⟨bs, os, fp', h1, h2, h3⟩ := h
    exact ⟨bs, os, fp', h1, Ts.free es _ fp' hf h2, h3⟩
theorem Cs.free {σ' : Nat → Option Hd} : ∀ (cs : List PV) (us : List Value) (f : List Nat), PV.freeL cs → Cs w R σ cs us f → Cs w R σ' cs us f
  | [], us, f, hf, h => by simpa only [Cs] using h
  | c :: cs, us, f, hf, h => by
    simp only [Cs, PV.freeL] at h hf ⊢
    obtain ⟨u, us', f1, f2, h0, h1, h2, h3, h4⟩ := h
    exact ⟨u, us', f1, f2, h0, h1, V.free c u f1 hf.1 h2, Cs.free cs us' f2 hf.2 h3, h4⟩
theorem Es.free {σ' : Nat → Option Hd} : ∀ (sz : Nat) (cs : List PV) (us : List Value) (f : List Nat), PV.freeL cs → Es w R σ sz cs us f → Es w R σ' sz cs us f
  | sz, [], us, f, hf, h => by simpa only [Es] using h
  | sz, c :: cs, us, f, hf, h => by
    simp only [Es, PV.freeL] at h hf ⊢
    obtain ⟨v, us', f1, f2, h0, h1, h2, hu, h3, h4, h5⟩ := h
    exact ⟨v, us', f1, f2, h0, h1, h2, hu, V.free c v f1 hf.1 h3, Es.free sz cs us' f2 hf.2 h4, h5⟩
theorem Ts.free {σ' : Nat → Option Hd} : ∀ (cs : List PV) (us : List Value) (f : List Nat), PV.freeL cs → Ts w R σ cs us f → Ts w R σ' cs us f
  | [], us, f, hf, h => by simpa only [Ts] using h
  | c :: cs, us, f, hf, h => by
    simp only [Ts, PV.freeL] at h hf ⊢
    obtain ⟨u, us', f1, f2, h0, h2, h3, h4⟩ := h
    exact ⟨u, us', f1, f2, h0, V.free c u f1 hf.1 h2, Ts.free cs us' f2 hf.2 h3, h4⟩
end
theorem none_le (σ : Nat → Option Hd) : Le (fun _ => none) σ := fun _ _ h => by simp at h
theorem foldR_mem {s : Nat → Option Root} {m r : Nat} {pv : PV} {l : List Nat} (he : foldR s m r = some (pv, l)) : r ∈ l := by
  cases m with
  | zero => simp [foldR] at he
  | succ m =>
    simp only [foldR] at he
    cases hs : s r with
    | none => simp [hs] at he
    | some rt =>
      simp only [hs] at he
      have main : ∀ (ls : List (Nat × Nat)) (acc : PV × List Nat), r ∈ acc.2 →
          ls.foldlM (fun acc l => match acc.1.cellAt l.1 l.2 with
            | some (.own c) => (foldR s m c).map fun x => (acc.1.put l.1 l.2 [x.1], acc.2 ++ x.2)
            | _ => some acc) acc = some (pv, l) → r ∈ l := by
        intro ls
        induction ls with
        | nil =>
          intro acc h he
          simp only [List.foldlM_nil, Option.pure_def, Option.some.injEq] at he
          subst he
          exact h
        | cons x ls ih =>
          intro acc h he
          rw [List.foldlM_cons] at he
          simp only [Option.bind_eq_bind] at he
          obtain ⟨acc', h1, h2⟩ := Option.bind_eq_some_iff.1 he
          refine ih acc' ?_ h2
          split at h1
          · rename_i c _
            cases hf : foldR s m c with
            | none => simp [hf] at h1
            | some y => simp only [hf, Option.map_some, Option.some.injEq] at h1; subst h1; simp [h]
          · simp only [Option.some.injEq] at h1; subst h1; exact h
      exact main rt.links (rt.pv, [r]) (by simp) he
theorem roL_sound (h : Rel w0 R0 F0 gh E.G n Fr R σ fps st a w) : ∀ (cs cs' : List PV) (us : List Value) (l : List Nat), roL st.store cs = some (cs', l) → (Cs w R σ cs us [] → Cs w (addR R (l.flatMap fps)) σ cs' us []) ∧ (Ts w R σ cs us [] → Ts w (addR R (l.flatMap fps)) σ cs' us [])
  | [], cs', us, l, he => by
    simp only [roL, Option.some.injEq, Prod.mk.injEq] at he
    obtain ⟨rfl, rfl⟩ := he
    simp [Cs, Ts]
  | c :: cs, cs', us, l, he => by
    simp only [roL] at he
    split at he
    case h_2 => cases he
    rename_i c1 l1 cs1 l2 h1 h2
    simp only [Option.some.injEq, Prod.mk.injEq] at he
    obtain ⟨rfl, rfl⟩ := he
    have m1 : ∀ b, addR R (l1.flatMap fps) b → addR R ((l1 ++ l2).flatMap fps) b := fun b hb => by rcases hb with hb | hb; exact .inl hb; exact .inr (by rw [List.flatMap_append]; simp [hb])
    have m2 : ∀ b, addR R (l2.flatMap fps) b → addR R ((l1 ++ l2).flatMap fps) b := fun b hb => by rcases hb with hb | hb; exact .inl hb; exact .inr (by rw [List.flatMap_append]; simp [hb])
    constructor
    · intro hc
      simp only [Cs] at hc ⊢
      obtain ⟨u, us', f1, f2, rfl, ho, hv, hcs, hf⟩ := hc
      obtain ⟨rfl, rfl⟩ : f1 = [] ∧ f2 = [] := by simpa using hf.symm
      exact ⟨u, us', [], [], rfl, ho, V.mono m1 (Le.refl _) (fun _ _ => rfl) _ _ _ (by simp) (roLeaf_sound h h1 hv), Cs.mono m2 (Le.refl _) (fun _ _ => rfl) _ _ _ (by simp) ((roL_sound h cs cs1 us' l2 h2).1 hcs), rfl⟩
    · intro hc
      simp only [Ts] at hc ⊢
      obtain ⟨u, us', f1, f2, rfl, hv, hcs, hf⟩ := hc
      obtain ⟨rfl, rfl⟩ : f1 = [] ∧ f2 = [] := by simpa using hf.symm
      exact ⟨u, us', [], [], rfl, V.mono m1 (Le.refl _) (fun _ _ => rfl) _ _ _ (by simp) (roLeaf_sound h h1 hv), Ts.mono m2 (Le.refl _) (fun _ _ => rfl) _ _ _ (by simp) ((roL_sound h cs cs1 us' l2 h2).2 hcs), rfl⟩
theorem roArg_sound (h : Rel w0 R0 F0 gh E.G n Fr R σ fps st a w) {x v : PV} {u : Value} {l : List Nat} (he : roArg st.store x = some (v, l)) (hx : V w R σ x u []) : V w (addR R (l.flatMap fps)) σ v u [] := by
  cases x with
  | agg cs =>
    simp only [roArg] at he
    cases hr : roL st.store cs with
    | none => simp [hr] at he
    | some y =>
      simp only [hr, Option.map_some, Option.some.injEq, Prod.mk.injEq] at he
      obtain ⟨rfl, rfl⟩ := he
      simp only [V] at hx ⊢
      obtain ⟨us, rfl, hc⟩ := hx
      exact ⟨us, rfl, (roL_sound h cs _ us _ hr).1 hc⟩
  | fn g cs =>
    simp only [roArg] at he
    cases hr : roL st.store cs with
    | none => simp [hr] at he
    | some y =>
      simp only [hr, Option.map_some, Option.some.injEq, Prod.mk.injEq] at he
      obtain ⟨rfl, rfl⟩ := he
      simp only [V] at hx ⊢
      obtain ⟨us, rfl, _, hc⟩ := hx
      exact ⟨us, rfl, trivial, (roL_sound h cs _ us _ hr).2 hc⟩
  | _ => simp only [roArg] at he; exact roLeaf_sound h he hx
theorem roLeaf_own {s : Nat → Option Root} {r : Nat} {v : PV} {l : List Nat} (he : roLeaf s (.own r) = some (v, l)) : ∃ y, foldR s 4 r = some y ∧ y.2 = l := by
  simp only [roLeaf] at he
  cases hf : foldR s 4 r with
  | none => simp [hf] at he
  | some y =>
    simp only [hf, Option.map_some, Option.some.injEq, Prod.mk.injEq] at he
    exact ⟨y, rfl, he.2⟩
theorem roL_own {s : Nat → Option Root} : ∀ {cs cs' : List PV} {l : List Nat}, roL s cs = some (cs', l) → ∀ r ∈ cs.flatMap own1, ∃ y, foldR s 4 r = some y ∧ ∀ q ∈ y.2, q ∈ l
  | [], cs', l, he, r, hr => by simp at hr
  | c :: cs, cs', l, he, r, hr => by
    simp only [roL] at he
    split at he
    case h_2 => cases he
    rename_i c' l1 cs'' l2 h1 h2
    simp only [Option.some.injEq, Prod.mk.injEq] at he
    obtain ⟨rfl, rfl⟩ := he
    rw [List.flatMap_cons, List.mem_append] at hr
    rcases hr with hr | hr
    · cases c <;> simp [own1] at hr
      subst hr
      obtain ⟨y, k1, k2⟩ := roLeaf_own h1
      exact ⟨y, k1, fun q hq => by rw [k2] at hq; simp [hq]⟩
    · obtain ⟨y, k1, k2⟩ := roL_own h2 r hr
      exact ⟨y, k1, fun q hq => by simp [k2 q hq]⟩
theorem mkArgs_hands {s : Nat → Option Root} : ∀ {ms : List Nat} {xs : List PV} {A : Args}, mkArgs s ms xs = some A → ∀ r ∈ hands0 ms xs, ∃ y, foldR s 4 r = some y ∧ ∀ q ∈ y.2, q ∈ A.ro
  | ms, [], A, he, r, hr => by simp [hands0] at hr
  | ms, x :: xs, A, he, r, hr => by
    simp only [mkArgs] at he
    split at he
    · cases he
    rename_i A1 hA1
    simp only [hands0, List.mem_append] at hr
    rcases hr with hr | hr
    · split at hr
      case isFalse => simp at hr
      rename_i h0
      rw [h0] at he
      simp only at he
      split at he
      case h_2 => cases he
      rename_i v l hro
      simp only [Option.some.injEq] at he
      subst he
      cases x with
      | own q =>
        simp only [ownH, List.mem_singleton] at hr
        subst hr
        obtain ⟨y, k1, k2⟩ := roLeaf_own hro
        exact ⟨y, k1, fun q hq => by rw [k2] at hq; simp [hq]⟩
      | agg cs =>
        simp only [ownH] at hr
        simp only [roArg] at hro
        cases hl : roL s cs with
        | none => rw [hl] at hro; cases hro
        | some z =>
          rw [hl] at hro
          simp only [Option.map_some, Option.some.injEq, Prod.mk.injEq] at hro
          obtain ⟨y, k1, k2⟩ := roL_own hl r hr
          exact ⟨y, k1, fun q hq => by have := k2 q hq; rw [hro.2] at this; simp [this]⟩
      | _ => simp [ownH] at hr
    · obtain ⟨y, k1, k2⟩ := mkArgs_hands hA1 r hr
      have hsub : ∀ q ∈ A1.ro, q ∈ A.ro := by
        intro q hq
        repeat' (first | (cases he; done) | split at he)
        all_goals (simp only [Option.some.injEq] at he; subst he; first | exact hq | exact List.mem_append_right _ hq)
      exact ⟨y, k1, fun q hq => hsub q (k2 q hq)⟩
theorem hasK_iff {r : Nat} : ∀ {l : List (Nat × Root)}, hasK r l = true ↔ r ∈ l.map (·.1)
  | [] => by simp [hasK]
  | x :: l => by
    simp only [hasK, List.map_cons, List.mem_cons]
    by_cases h : x.1 = r
    · simp [h]
    · rw [if_neg h, hasK_iff]
      constructor
      · exact .inr
      · rintro (e | e)
        · exact absurd e.symm h
        · exact e
theorem frzRo_nodup (s : Nat → Option Root) : ∀ hs : List Nat, ((frzRo s hs).map (·.1)).Nodup
  | [] => by simp [frzRo]
  | r :: hs => by
    have ih := frzRo_nodup s hs
    simp only [frzRo]
    split
    · exact ih
    · rename_i hk
      rw [hasK_iff] at hk
      split
      · exact List.nodup_cons.2 ⟨hk, ih⟩
      · exact List.nodup_cons.2 ⟨hk, ih⟩
      · exact ih
theorem frzRo_mem {s : Nat → Option Root} {x : Nat × Root} : ∀ {hs : List Nat}, x ∈ frzRo s hs → x.1 ∈ hs ∧ ∃ y, foldR s 4 x.1 = some y ∧ ((∃ sz es, y.1 = .slo sz es ∧ x.2 = ⟨.sl (stripL es), []⟩) ∨ ∃ es, y.1 = .sl es ∧ x.2 = ⟨.sl es, []⟩)
  | [], h => by simp [frzRo] at h
  | r :: hs, h => by
    simp only [frzRo] at h
    have up : x ∈ frzRo s hs → x.1 ∈ r :: hs ∧ ∃ y, foldR s 4 x.1 = some y ∧ ((∃ sz es, y.1 = .slo sz es ∧ x.2 = ⟨.sl (stripL es), []⟩) ∨ ∃ es, y.1 = .sl es ∧ x.2 = ⟨.sl es, []⟩) := fun h => ⟨List.mem_cons_of_mem _ (frzRo_mem h).1, (frzRo_mem h).2⟩
    split at h
    · exact up h
    · split at h
      · rename_i sz es l hf
        rcases List.mem_cons.1 h with rfl | h
        · exact ⟨by simp, _, hf, .inl ⟨sz, es, rfl, rfl⟩⟩
        · exact up h
      · rename_i es l hf
        rcases List.mem_cons.1 h with rfl | h
        · exact ⟨by simp, _, hf, .inr ⟨es, rfl, rfl⟩⟩
        · exact up h
      · exact up h
theorem frzRo_sound (h : Rel w0 R0 F0 gh E.G n Fr R σ fps st a w) {ms : List Nat} {xs : List PV} {A : Args} (hA : mkArgs st.store ms xs = some A) : ∀ x ∈ frzRo st.store (hands0 ms xs), x.1 ∈ A.ro ∧ ∃ k, σ x.1 = some k ∧ V w (addR R (A.ro.flatMap fps)) σ x.2.pv k.hdr [] ∧ RootTy k x.2.pv := by
  intro x hx
  obtain ⟨h1, y, h2, h3⟩ := frzRo_mem hx
  obtain ⟨pv, l⟩ := y
  obtain ⟨y', k1, k2⟩ := mkArgs_hands hA x.1 h1
  rw [h2] at k1
  obtain rfl := Option.some.inj k1
  obtain ⟨k, f, hk, hV, hty, hp⟩ := fold_sound h 4 x.1 pv l h2
  refine ⟨k2 _ (foldR_mem h2), k, hk, ?_⟩
  have up : ∀ b, addR R f b → addR R (A.ro.flatMap fps) b := fun b hb => by
    rcases hb with hb | hb
    · exact .inl hb
    · obtain ⟨q, hq, hbq⟩ := List.mem_flatMap.1 (hp.mem_iff.1 hb)
      exact .inr (List.mem_flatMap.2 ⟨q, k2 q hq, hbq⟩)
  have hS := V.mono up (Le.refl _) (fun _ _ => rfl) _ _ _ (by simp) (strip_V _ _ _ hV)
  rcases h3 with ⟨sz, es, rfl, he⟩ | ⟨es, rfl, he⟩
  · rw [he]
    exact ⟨hS, trivial⟩
  · rw [he]
    exact ⟨hS, trivial⟩
inductive CellBack (σ : Nat → Option Hd) : List Nat → List PV → List Value → List (Option Nat) → Prop
  | nil : CellBack σ [] [] [] []
  | none {l : List Nat} (c : PV) (u : Value) {cs : List PV} {us : List Value} {rs : List (Option Nat)} (h : CellBack σ l cs us rs) : CellBack σ l (c :: cs) (u :: us) (none :: rs)
  | some {l l0 : List Nat} {sz : Nat} {es : List PV} {u : Value} {cs : List PV} {us : List Value} {rs : List (Option Nat)} {r : Nat} {k : Hd} (hk : σ r = some k) (hu : u = k.hdr) (hr : r ∈ l0) (ht : sz = k.sz) (h : CellBack σ l cs us rs) : CellBack σ (l0 ++ l) (.slo sz es :: cs) (u :: us) (some r :: rs)
  | frz {l0 l : List Nat} (es : List PV) (u : Value) (r : Nat) {cs : List PV} {us : List Value} {rs : List (Option Nat)} (h : CellBack σ l cs us rs) : CellBack σ (l0 ++ l) (.sl es :: cs) (u :: us) (some r :: rs)
theorem inl_cellBack (h : Rel w0 R0 F0 gh E.G n Fr R σ fps st a w) : ∀ (cs : List PV) (us : List Value) (cs' : List PV) (l : List Nat), inl st.store cs = some (cs', l) → Cs w R σ cs us [] → CellBack σ l cs' us (ownsOf cs)
  | [], us, cs', l, he, ht => by
    simp only [inl, Option.some.injEq, Prod.mk.injEq] at he
    obtain ⟨rfl, rfl⟩ := he
    simp only [Cs] at ht
    rw [ht.1]
    exact .nil
  | c :: cs, us, cs', l, he, ht => by
    simp only [Cs] at ht
    obtain ⟨u, us', f1, f2, rfl, ho, hv, hts, hf⟩ := ht
    obtain ⟨rfl, rfl⟩ : f1 = [] ∧ f2 = [] := by simpa using hf.symm
    cases c with
    | own r =>
      simp only [inl] at he
      split at he
      · rename_i sz es lr cs'' l' hf hi
        simp only [Option.some.injEq, Prod.mk.injEq] at he
        obtain ⟨rfl, rfl⟩ := he
        obtain ⟨k, f, hk, hV, hty, hp⟩ := fold_sound h 4 r _ _ hf
        simp only [V] at hv
        obtain ⟨_, k', hk', rfl, ho⟩ := hv
        obtain rfl : k = k' := by rw [hk] at hk'; exact Option.some.inj hk'
        exact .some hk rfl (foldR_mem hf) hty (inl_cellBack h cs us' _ _ hi hts)
      · rename_i es lr cs'' l' hf hi
        simp only [Option.some.injEq, Prod.mk.injEq] at he
        obtain ⟨rfl, rfl⟩ := he
        exact .frz _ _ _ (inl_cellBack h cs us' _ _ hi hts)
      · cases he
    | nilS =>
      simp only [inl] at he
      cases hi : inl st.store cs with
      | none => simp [hi] at he
      | some y =>
        simp only [hi, Option.map_some, Option.some.injEq, Prod.mk.injEq] at he
        obtain ⟨rfl, rfl⟩ := he
        exact .none _ _ (inl_cellBack h cs us' _ _ hi hts)
    | _ =>
      simp only [inl] at he
      split at he
      · cases hi : inl st.store cs with
        | none => simp [hi] at he
        | some y =>
          simp only [hi, Option.map_some, Option.some.injEq, Prod.mk.injEq] at he
          obtain ⟨rfl, rfl⟩ := he
          exact .none _ _ (inl_cellBack h cs us' _ _ hi hts)
      · cases he
inductive BackOk (σ : Nat → Option Hd) : List Nat → List PV → List Value → List (Option Bk) → Prop
  | nil : BackOk σ [] [] [] []
  | none (l : List Nat) {gone : List Nat} (v : PV) (u : Value) {vs : List PV} {us : List Value} {bs : List (Option Bk)} (h : BackOk σ gone vs us bs) : BackOk σ (l ++ gone) (v :: vs) (u :: us) (none :: bs)
  | some {l gone : List Nat} {v : PV} {u : Value} {vs : List PV} {us : List Value} {bs : List (Option Bk)} {r : Nat} {k : Hd} (hk : σ r = some k) (hu : u = k.hdr) (hr : r ∈ l) (ht : RootTy k v) (h : BackOk σ gone vs us bs) : BackOk σ (l ++ gone) (v :: vs) (u :: us) (some (.root r) :: bs)
  | cells {l gone : List Nat} {cs ds : List PV} {xs : List Value} {vs : List PV} {us : List Value} {bs : List (Option Bk)} (hc : CellBack σ l cs xs (ownsOf ds)) (h : BackOk σ gone vs us bs) : BackOk σ (l ++ gone) (.agg cs :: vs) (.agg xs.toArray :: us) (some (.cells (ownsOf ds)) :: bs)
theorem mkArgs_sound (h : Rel w0 R0 F0 gh E.G n Fr R σ fps st a w) : ∀ (ms : List Nat) (xs : List PV) (us : List Value) (A : Args), mkArgs st.store ms xs = some A → Ts w R σ xs us [] →
    ∃ f, Ts w (addR R (A.ro.flatMap fps)) σ A.vs us f ∧ f.Perm (A.gone.flatMap fps) ∧ BackOk σ A.gone A.vs us A.back
  | ms, [], us, A, he, ht => by
    simp only [mkArgs, Option.some.injEq] at he
    subst he
    simp only [Ts] at ht
    exact ⟨[], by simp [Ts, ht.1], by simp, by rw [ht.1]; exact .nil⟩
  | ms, x :: xs, us, A, he, ht => by
    simp only [Ts] at ht
    obtain ⟨u, us', f1, f2, rfl, hv, hts, hf⟩ := ht
    obtain ⟨rfl, rfl⟩ : f1 = [] ∧ f2 = [] := by simpa using hf.symm
    simp only [mkArgs] at he
    split at he
    · cases he
    rename_i A1 hA1
    obtain ⟨f, k1, k2, k3⟩ := mkArgs_sound h ms.tail xs us' A1 hA1 hts
    split at he
    · -- read
      split at he
      case h_2 => cases he
      rename_i v l hr
      simp only [Option.some.injEq] at he
      subst he
      have m1 : ∀ b, addR R (l.flatMap fps) b → addR R ((l ++ A1.ro).flatMap fps) b := fun b hb => by rcases hb with hb | hb; exact .inl hb; exact .inr (by rw [List.flatMap_append]; simp [hb])
      have m2 : ∀ b, addR R (A1.ro.flatMap fps) b → addR R ((l ++ A1.ro).flatMap fps) b := fun b hb => by rcases hb with hb | hb; exact .inl hb; exact .inr (by rw [List.flatMap_append]; simp [hb])
      refine ⟨f, ?_, k2, .none [] v u k3⟩
      simp only [Ts]
      exact ⟨u, us', [], f, rfl, V.mono m1 (Le.refl _) (fun _ _ => rfl) _ _ _ (by simp) (roArg_sound h hr hv), Ts.mono m2 (Le.refl _) (fun _ _ => rfl) _ _ _ (fun _ _ => rfl) k1, rfl⟩
    · -- handed over
      rename_i m hm
      split at he
      · rename_i r
        split at he
        case h_2 => cases he
        rename_i sz es l hfo
        simp only [Option.some.injEq] at he
        subst he
        obtain ⟨k, g, hk, hV, hty, hp⟩ := fold_sound h 4 r _ _ hfo
        simp only [V] at hv
        obtain ⟨_, k', hk', rfl, _⟩ := hv
        obtain rfl : k = k' := by rw [hk] at hk'; exact Option.some.inj hk'
        refine ⟨g ++ f, ?_, by rw [List.flatMap_append]; exact hp.append k2, ?_⟩
        · simp only [Ts]
          exact ⟨k.hdr, us', g, f, rfl, V.mono (fun b hb => .inl hb) (Le.refl _) (fun _ _ => rfl) _ _ _ (fun _ _ => rfl) hV, k1, rfl⟩
        · have hrl : r ∈ l := foldR_mem hfo
          by_cases hm0 : m = 0
          · simp only [hm0, if_true]; exact .some hk rfl hrl hty k3
          · simp only [hm0, if_false]; exact .none l _ _ k3
      · rename_i r
        split at he
        case h_2 => cases he
        rename_i cs l hfo
        simp only [Option.some.injEq] at he
        subst he
        obtain ⟨k, g, hk, hV, hty, hp⟩ := fold_sound h 4 r _ _ hfo
        simp only [V] at hv
        obtain ⟨_, k', b, hk', hb, rfl⟩ := hv
        obtain rfl : k = k' := by rw [hk] at hk'; exact Option.some.inj hk'
        have hhdr : k.hdr = .pointer (some ⟨b, 0, none⟩) := by
          simp only [V] at hV
          obtain ⟨b', us2, e, fp', h1, _⟩ := hV
          rw [h1] at hb ⊢
          simp [blkOf] at hb
          rw [hb]
        simp only [Nat.zero_mul, Nat.add_zero]
        rw [← hhdr]
        refine ⟨g ++ f, ?_, by rw [List.flatMap_append]; exact hp.append k2, ?_⟩
        · simp only [Ts]
          exact ⟨k.hdr, us', g, f, rfl, V.mono (fun b hb => .inl hb) (Le.refl _) (fun _ _ => rfl) _ _ _ (fun _ _ => rfl) hV, k1, rfl⟩
        · have hrl : r ∈ l := foldR_mem hfo
          by_cases hm0 : m = 0
          · simp only [hm0, if_true]; exact .some hk rfl hrl hty k3
          · simp only [hm0, if_false]; exact .none l _ _ k3
      · split at he
        · cases he
        simp only [Option.some.injEq] at he
        subst he
        simp only [V] at hv
        obtain ⟨rfl, _⟩ := hv
        refine ⟨f, ?_, k2, .none [] _ _ k3⟩
        simp only [Ts]
        exact ⟨_, us', [], f, rfl, by simp [V], k1, rfl⟩
      · rename_i cs
        split at he
        case h_2 => cases he
        rename_i cs' l hin
        simp only [Option.some.injEq] at he
        subst he
        simp only [V] at hv
        obtain ⟨xs, rfl, hc⟩ := hv
        obtain ⟨g, q1, q2, q3, q4⟩ := inl_sound h cs xs cs' l hin hc.toTs
        have hcb := inl_cellBack h cs xs cs' l hin hc
        refine ⟨g ++ f, ?_, by rw [List.flatMap_append]; exact q2.append k2, ?_⟩
        · simp only [Ts]
          exact ⟨_, us', g, f, rfl, by simp only [V]; exact ⟨xs, rfl, Cs.mono (fun b hb => .inl hb) (Le.refl _) (fun _ _ => rfl) _ _ _ (fun _ _ => rfl) q1⟩, k1, rfl⟩
        · by_cases hm0 : m = 0
          · simp only [hm0, if_true]; exact .cells hcb k3
          · simp only [hm0, if_false]; exact .none l _ _ k3
      · cases he
end
end Go.Proofs.YtmanllfmgghadaaGreatDoor.PVE
namespace Go.Proofs.YtmanllfmgghadaaGreatDoor.PVE
open PV
section
variable {P : Program} {E : Env} {w0 : World} {R0 : Nat → Prop} {F0 : List Nat} {gh : Nat → Value} {n : Nat} {Fr : Nat → Prop} {R : Nat → Prop} {σ : Nat → Option Hd} {fps : Nat → List Nat} {st : St} {a : Act} {w : World} [Dm]
theorem backC_none {c d : PV} {cs ds : List PV} {rs : List (Option Nat)} {l : List (Nat × Root)} (h : backC (c :: cs) (none :: rs) (d :: ds) = some l) : (∀ sz es, d ≠ .slo sz es) ∧ d.cellOk = true ∧ backC cs rs ds = some l := by
  have h2 : backC (c :: cs) (none :: rs) (d :: ds) = if d.isSlo = false ∧ d.cellOk = true then backC cs rs ds else none := by cases c <;> rfl
  rw [h2] at h
  split at h
  · rename_i hk
    exact ⟨fun sz es he => by rw [he] at hk; simp [PV.isSlo] at hk, hk.2, h⟩
  · cases h
theorem backC_sound {gone : List Nat} {cs : List PV} {us : List Value} {rs : List (Option Nat)} (hb : CellBack σ gone cs us rs) : ∀ (ds : List PV) (l : List (Nat × Root)) (f : List Nat), gone.Nodup → backC cs rs ds = some l → Cs w R (fun _ => none) ds us f →
    ∃ fpB : Nat → List Nat, (l.map (·.1)).Nodup ∧ (∀ r ∈ l.map (·.1), r ∈ gone) ∧ (∀ x ∈ l, ∃ k, σ x.1 = some k ∧ V w R (fun _ => none) x.2.pv k.hdr (fpB x.1) ∧ RootTy k x.2.pv) ∧ f.Perm ((l.map (·.1)).flatMap fpB) := by
  induction hb with
  | nil =>
    intro ds l f _ he hc
    cases ds with
    | nil =>
      simp only [backC, Option.some.injEq] at he
      subst he
      simp only [Cs] at hc
      exact ⟨fun _ => [], by simp, by simp, by simp, by simp [hc.2]⟩
    | cons d ds => simp [backC] at he
  | @none l0 c u cs us rs h ih =>
    intro ds l f hnd he hc
    cases ds with
    | nil => cases c <;> simp [backC] at he
    | cons d ds =>
      simp only [Cs] at hc
      obtain ⟨u', us', f1, f2, heq, ho, hv, hc, rfl⟩ := hc
      simp only [List.cons.injEq] at heq
      obtain ⟨rfl, rfl⟩ := heq
      obtain ⟨hs, he'⟩ := backC_none he
      have := cellOk_fp he'.1 hs hv
      subst this
      simpa using ih ds l f2 hnd he'.2 hc
  | @some l0 l1 sz es u cs us rs r k hk hu hr ht h ih =>
    intro ds l f hnd he hc
    cases ds with
    | nil => simp [backC] at he
    | cons d ds =>
      simp only [Cs] at hc
      obtain ⟨u', us', f1, f2, heq, ho, hv, hc, rfl⟩ := hc
      simp only [List.cons.injEq] at heq
      obtain ⟨rfl, rfl⟩ := heq
      cases d with
      | slo sz' es' =>
        simp only [backC] at he
        split at he
        case isFalse => cases he
        rename_i hsz
        cases hb : backC cs rs ds with
        | none => simp [hb] at he
        | some l' =>
          simp only [hb, Option.map_some, Option.some.injEq] at he
          subst he
          have hnd' := List.nodup_append.1 hnd
          obtain ⟨fpB, h1, h2, h3, h4⟩ := ih ds l' f2 hnd'.2.1 hb hc
          have hne : ∀ q ∈ l'.map (·.1), q ≠ r := by
            rintro q hq rfl
            exact hnd'.2.2 q hr q (h2 q hq) rfl
          refine ⟨fun q => if q = r then f1 else fpB q, ?_, ?_, ?_, ?_⟩
          · rw [List.map_cons, List.nodup_cons]
            exact ⟨fun hm => hne _ hm rfl, h1⟩
          · intro q hq
            rw [List.map_cons] at hq
            rcases List.mem_cons.1 hq with rfl | hq
            · simp [hr]
            · simp [h2 q hq]
          · intro y hy
            rcases List.mem_cons.1 hy with rfl | hy
            · exact ⟨k, hk, by simp only [if_true]; rw [← hu]; exact hv, by simp only [RootTy]; rw [← hsz]; exact ht⟩
            · have : y.1 ≠ r := hne _ (List.mem_map_of_mem hy)
              simp only [this, if_false]
              exact h3 y hy
          · rw [List.map_cons, List.flatMap_cons]
            simp only [if_true]
            rw [flatMap_same (g := fpB) (fun q hq => by simp [hne q hq])]
            exact h4.append_left _
      | _ => simp [backC] at he
  | frz es u r h ih =>
    intro ds l f _ he hc
    cases ds with
    | nil => simp [backC] at he
    | cons d ds => simp [backC] at he
theorem backs_sound {gone : List Nat} {vs : List PV} {us : List Value} {bs : List (Option Bk)} (hb : BackOk σ gone vs us bs) : ∀ (ps : List (Option PV)) (l : List (Nat × Root)) (fb : List Nat), gone.Nodup → backs vs bs ps = some l → Bs w R us ps fb →
    ∃ fpB : Nat → List Nat, (l.map (·.1)).Nodup ∧ (∀ r ∈ l.map (·.1), r ∈ gone) ∧ (∀ x ∈ l, ∃ k, σ x.1 = some k ∧ V w R (fun _ => none) x.2.pv k.hdr (fpB x.1) ∧ RootTy k x.2.pv) ∧ fb.Perm ((l.map (·.1)).flatMap fpB) := by
  induction hb with
  | nil =>
    intro ps l fb _ he hB
    cases ps with
    | nil =>
      simp only [backs, Option.some.injEq] at he
      subst he
      simp only [Bs] at hB
      subst hB
      exact ⟨fun _ => [], by simp, by simp, by simp, by simp⟩
    | cons p ps => simp [backs] at he
  | none l0 v u h ih =>
    intro ps l fb hnd he hB
    cases ps with
    | nil => simp [backs] at he
    | cons p ps =>
      cases p with
      | some p => simp [backs] at he
      | none =>
        simp only [backs, List.tail_cons] at he
        simp only [Bs] at hB
        obtain ⟨fpB, h1, h2, h3, h4⟩ := ih ps l fb (List.nodup_append.1 hnd).2.1 he hB
        exact ⟨fpB, h1, fun r hr => by simp [h2 r hr], h3, h4⟩
  | @some l0 gone v u vs us bs r k hk hu hr ht h ih =>
    intro ps l fb hnd he hB
    cases ps with
    | nil => simp [backs] at he
    | cons p ps =>
      cases p with
      | none => simp [backs] at he
      | some p =>
        simp only [backs, List.headD_cons, List.tail_cons] at he
        simp only [Bs] at hB
        obtain ⟨f1, f2, hV, hB, rfl⟩ := hB
        have hnd' := List.nodup_append.1 hnd
        have key : ∀ (l' : List (Nat × Root)) (x : Root), backs vs bs ps = some l' → RootTy k x.pv → V w R (fun _ => none) x.pv u f1 → l = (r, x) :: l' →
            ∃ fpB : Nat → List Nat, (l.map (·.1)).Nodup ∧ (∀ r ∈ l.map (·.1), r ∈ l0 ++ gone) ∧ (∀ x ∈ l, ∃ k, σ x.1 = some k ∧ V w R (fun _ => none) x.2.pv k.hdr (fpB x.1) ∧ RootTy k x.2.pv) ∧ (f1 ++ f2).Perm ((l.map (·.1)).flatMap fpB) := by
          intro l' x he' hty hV' hl
          subst hl
          obtain ⟨fpB, h1, h2, h3, h4⟩ := ih ps l' f2 hnd'.2.1 he' hB
          have hne : ∀ q ∈ l'.map (·.1), q ≠ r := by
            rintro q hq rfl
            exact hnd'.2.2 q hr q (h2 q hq) rfl
          refine ⟨fun q => if q = r then f1 else fpB q, ?_, ?_, ?_, ?_⟩
          · rw [List.map_cons, List.nodup_cons]
            exact ⟨fun hm => hne _ hm rfl, h1⟩
          · intro q hq
            rw [List.map_cons] at hq
            rcases List.mem_cons.1 hq with rfl | hq
            · simp [hr]
            · simp [h2 q hq]
          · intro y hy
            rcases List.mem_cons.1 hy with rfl | hy
            · exact ⟨k, hk, by simp only [if_true]; rw [← hu]; exact hV', hty⟩
            · have : y.1 ≠ r := hne _ (List.mem_map_of_mem hy)
              simp only [this, if_false]
              exact h3 y hy
          · rw [List.map_cons, List.flatMap_cons]
            simp only [if_true]
            rw [flatMap_same (g := fpB) (fun q hq => by simp [hne q hq])]
            exact h4.append_left _
        split at he
        · rename_i sz esv sz' es l' hp2
          split at he
          · rename_i hsz
            simp only [Option.some.injEq] at he
            simp only [RootTy] at ht
            exact key l' ⟨.slo sz' es, []⟩ hp2 (by simp only [RootTy]; rw [← hsz]; exact ht) hV he.symm
          · cases he
        · rename_i csv cs' l' hp2
          simp only [Option.some.injEq] at he
          exact key l' ⟨.pto cs', []⟩ hp2 trivial hV he.symm
        · cases he
  | @cells l0 gone cs ds xs vs us bs hc h ih =>
    intro ps l fb hnd he hB
    cases ps with
    | nil => simp [backs] at he
    | cons p ps =>
      cases p with
      | none => simp [backs] at he
      | some p =>
        simp only [backs, List.headD_cons, List.tail_cons] at he
        simp only [Bs] at hB
        obtain ⟨f1, f2, hV, hB, rfl⟩ := hB
        split at he
        case h_2 => cases he
        rename_i cs0 es l2 heq hp2
        simp only [PV.agg.injEq] at heq
        subst heq
        cases hbc : backC cs (ownsOf ds) es with
        | none => simp [hbc] at he
        | some l1 =>
          simp only [hbc, Option.map_some, Option.some.injEq] at he
          subst he
          have hnd' := List.nodup_append.1 hnd
          obtain ⟨fpB, h1, h2, h3, h4⟩ := ih ps l2 f2 hnd'.2.1 hp2 hB
          simp only [V] at hV
          obtain ⟨us2, hxs, hV⟩ := hV
          have hxs' : xs = us2 := by simpa using hxs
          subst hxs'
          obtain ⟨fpC, g1, g2, g3, g4⟩ := backC_sound hc es l1 f1 hnd'.1 hbc hV
          have hne : ∀ q ∈ l2.map (·.1), q ∉ l1.map (·.1) := fun q hq hq' => hnd'.2.2 q (g2 q hq') q (h2 q hq) rfl
          refine ⟨fun q => if q ∈ l1.map (·.1) then fpC q else fpB q, ?_, ?_, ?_, ?_⟩
          · rw [List.map_append, List.nodup_append]
            exact ⟨g1, h1, fun x hx y hy hxy => hne y hy (hxy ▸ hx)⟩
          · intro r hr
            rw [List.map_append] at hr
            rcases List.mem_append.1 hr with hr | hr
            · simp [g2 r hr]
            · simp [h2 r hr]
          · intro y hy
            rcases List.mem_append.1 hy with hy | hy
            · have : y.1 ∈ l1.map (·.1) := List.mem_map_of_mem hy
              simp only [this, if_true]
              exact g3 y hy
            · have : y.1 ∉ l1.map (·.1) := hne _ (List.mem_map_of_mem hy)
              simp only [this, if_false]
              exact h3 y hy
          · rw [List.map_append, List.flatMap_append]
            rw [flatMap_same (g := fpC) (fun q hq => by simp only [hq, if_true]), flatMap_same (l := l2.map (·.1)) (g := fpB) (fun q hq => by simp only [hne q hq, if_false])]
            exact g4.append h4
theorem imp1_sound {Rv : Nat → Prop} : ∀ (pv : PV) (v : Value) (f : List Nat) (b : Nat) (σ : Nat → Option Hd), (∀ r, b ≤ r → r < b + (imp1 pv b).2.length → σ r = none) → V w Rv σ pv v f →
    ∃ (σ' : Nat → Option Hd) (fpN : Nat → List Nat) (g : List Nat), Le σ σ' ∧ (∀ r, (r < b ∨ b + (imp1 pv b).2.length ≤ r) → σ' r = σ r) ∧ V w Rv σ' (imp1 pv b).1 v [] ∧
      (imp1 pv b).2.map (·.1) = List.range' b (imp1 pv b).2.length ∧ (∀ x ∈ (imp1 pv b).2, ∃ k, σ' x.1 = some k ∧ V w Rv σ' x.2 k.hdr (fpN x.1) ∧ RootTy k x.2) ∧
      f.Perm (g ++ ((imp1 pv b).2.map (·.1)).flatMap fpN) := by
  intro pv v f b σ hf hv
  have keep : ∀ {q : PV}, imp1 pv b = (q, []) → V w Rv σ q v [] → ∃ (σ' : Nat → Option Hd) (fpN : Nat → List Nat) (g : List Nat), Le σ σ' ∧ (∀ r, (r < b ∨ b + (imp1 pv b).2.length ≤ r) → σ' r = σ r) ∧ V w Rv σ' (imp1 pv b).1 v [] ∧
      (imp1 pv b).2.map (·.1) = List.range' b (imp1 pv b).2.length ∧ (∀ x ∈ (imp1 pv b).2, ∃ k, σ' x.1 = some k ∧ V w Rv σ' x.2 k.hdr (fpN x.1) ∧ RootTy k x.2) ∧
      f.Perm (g ++ ((imp1 pv b).2.map (·.1)).flatMap fpN) := by
    intro q he hq
    rw [he]
    exact ⟨σ, fun _ => [], f, Le.refl _, fun _ _ => rfl, hq, by simp, by simp, by simp⟩
  have one : ∀ (hd : Hd) (q : PV), imp1 pv b = (q, [(b, pv)]) → hd.hdr = v → RootTy hd pv → V w Rv (upd σ b (some hd)) q v [] → ∃ (σ' : Nat → Option Hd) (fpN : Nat → List Nat) (g : List Nat), Le σ σ' ∧ (∀ r, (r < b ∨ b + (imp1 pv b).2.length ≤ r) → σ' r = σ r) ∧ V w Rv σ' (imp1 pv b).1 v [] ∧
      (imp1 pv b).2.map (·.1) = List.range' b (imp1 pv b).2.length ∧ (∀ x ∈ (imp1 pv b).2, ∃ k, σ' x.1 = some k ∧ V w Rv σ' x.2 k.hdr (fpN x.1) ∧ RootTy k x.2) ∧
      f.Perm (g ++ ((imp1 pv b).2.map (·.1)).flatMap fpN) := by
    intro hd q he hh hty hq
    rw [he]
    have hle : Le σ (upd σ b (some hd)) := by
      intro r k hr
      have : r ≠ b := by rintro rfl; rw [hf _ (Nat.le_refl _) (by rw [he]; simp)] at hr; cases hr
      rw [upd_other _ _ _ this]; exact hr
    refine ⟨upd σ b (some hd), fun _ => f, [], hle, fun r hr => ?_, hq, by simp, ?_, by simp⟩
    · simp at hr; rw [upd_other _ _ _ (by omega)]
    · intro x hx
      simp only [List.mem_singleton] at hx
      subst hx
      exact ⟨hd, upd_same _ _ _, by rw [hh]; exact V.mono (fun _ h => h) hle (fun _ _ => rfl) _ _ _ (fun _ _ => rfl) hv, hty⟩
  cases pv with
  | slo sz es =>
    refine one ⟨v, sz⟩ _ rfl rfl rfl ?_
    simp only [V]
    refine ⟨trivial, _, upd_same _ _ _, rfl, ?_⟩
    simp only [V] at hv
    obtain ⟨us, fp', hrow, _⟩ := hv
    obtain ⟨A, c, rfl, _⟩ := hrow.form
    rfl
  | pto cs =>
    refine one ⟨v, 0⟩ _ rfl rfl trivial ?_
    simp only [V] at hv
    obtain ⟨b', us, e, fp', rfl, _⟩ := hv
    simp only [V]
    exact ⟨trivial, _, b', upd_same _ _ _, rfl, by simp⟩
  | agg cs =>
    by_cases hk : cs.all PV.cellOk = true
    · simp only [V] at hv
      obtain ⟨us, rfl, hc⟩ := hv
      have himp : imp1 (.agg cs) b = (.agg (det cs b 0).1, (det cs b 0).2.1) := by simp only [imp1, hk, if_true]
      obtain ⟨σ', fpN, i1, i2, i3, i4, i5, i6, i7, i8⟩ := det_sound cs us f b 0 σ (by rw [himp] at hf; exact hf) hk hc
      rw [himp]
      exact ⟨σ', fpN, [], i1, i2, by simp only [V]; exact ⟨us, rfl, i3⟩, i4, i5, by rw [i6]; simp⟩
    · exact keep (q := .undef) (by simp only [imp1, hk, if_false]; rfl) (by simp [V])
  | tup cs => exact keep (q := .undef) rfl (by simp [V])
  | mp it cs => exact keep (q := .undef) rfl (by simp [V])
  | _ =>
    refine keep rfl ?_
    have := cellOk_fp (by rfl) (by simp) hv
    subst this
    exact hv
theorem impL_sound {Rv : Nat → Prop} : ∀ (vs : List PV) (us : List Value) (f : List Nat) (b : Nat) (σ : Nat → Option Hd), (∀ r, b ≤ r → r < b + (impL vs b).2.length → σ r = none) → Ts w Rv σ vs us f →
    ∃ (σ' : Nat → Option Hd) (fpN : Nat → List Nat) (g : List Nat), Le σ σ' ∧ (∀ r, (r < b ∨ b + (impL vs b).2.length ≤ r) → σ' r = σ r) ∧ Ts w Rv σ' (impL vs b).1 us [] ∧
      (impL vs b).2.map (·.1) = List.range' b (impL vs b).2.length ∧ (∀ x ∈ (impL vs b).2, ∃ k, σ' x.1 = some k ∧ V w Rv σ' x.2 k.hdr (fpN x.1) ∧ RootTy k x.2) ∧
      f.Perm (g ++ ((impL vs b).2.map (·.1)).flatMap fpN)
  | [], us, f, b, σ, hf, h => by
    simp only [Ts] at h
    obtain ⟨rfl, rfl⟩ := h
    exact ⟨σ, fun _ => [], [], Le.refl _, fun _ _ => rfl, by simp [impL, Ts], by simp [impL], by simp [impL], by simp [impL]⟩
  | v :: vs, us, f, b, σ, hf, h => by
    simp only [Ts] at h
    obtain ⟨u, us', f1, f2, rfl, hv, hts, rfl⟩ := h
    obtain ⟨σ1, fp1, g1, i1, i2, i3, i4, i5, i6⟩ := imp1_sound v u f1 b σ (fun r hr hr2 => hf r hr (by simp only [impL, List.length_append]; omega)) hv
    obtain ⟨σ2, fp2, g2, j1, j2, j3, j4, j5, j6⟩ := impL_sound vs us' f2 (b + (imp1 v b).2.length) σ1 (fun r hr hr2 => by rw [i2 r (.inr hr)]; exact hf r (by omega) (by simp only [impL, List.length_append]; omega)) (Ts.mono (fun _ h => h) i1 (fun _ _ => rfl) _ _ _ (fun _ _ => rfl) hts)
    have hm1 : ∀ x ∈ (imp1 v b).2, b ≤ x.1 ∧ x.1 < b + (imp1 v b).2.length := fun x hx => by
      have : x.1 ∈ List.range' b (imp1 v b).2.length := by rw [← i4]; exact List.mem_map_of_mem hx
      simpa using this
    have hm2 : ∀ x ∈ (impL vs (b + (imp1 v b).2.length)).2, b + (imp1 v b).2.length ≤ x.1 := fun x hx => by
      have : x.1 ∈ List.range' (b + (imp1 v b).2.length) (impL vs (b + (imp1 v b).2.length)).2.length := by rw [← j4]; exact List.mem_map_of_mem hx
      simp at this; omega
    refine ⟨σ2, fun r => if r < b + (imp1 v b).2.length then fp1 r else fp2 r, g1 ++ g2, i1.trans j1, ?_, ?_, ?_, ?_, ?_⟩
    · intro r hr
      simp only [impL, List.length_append] at hr
      rw [j2 r (by omega), i2 r (by omega)]
    · simp only [impL, Ts]
      exact ⟨u, us', [], [], rfl, V.mono (fun _ h => h) j1 (fun _ _ => rfl) _ _ _ (fun _ _ => rfl) i3, j3, rfl⟩
    · simp only [impL, List.map_append, List.length_append, i4, j4]
      rw [List.range'_append_1]
    · intro x hx
      simp only [impL, List.mem_append] at hx
      rcases hx with hx | hx
      · obtain ⟨k, k1, k2, k3⟩ := i5 x hx
        refine ⟨k, j1 _ _ k1, ?_, k3⟩
        simp only [(hm1 x hx).2, if_true]
        exact V.mono (fun _ h => h) j1 (fun _ _ => rfl) _ _ _ (fun _ _ => rfl) k2
      · have : ¬ x.1 < b + (imp1 v b).2.length := by have := hm2 x hx; omega
        simp only [this, if_false]
        exact j5 x hx
    · simp only [impL, List.map_append, List.flatMap_append]
      rw [flatMap_same (g := fp1) (fun q hq => by
        rw [i4] at hq; simp at hq; simp [hq.2]), flatMap_same (l := ((impL vs (b + (imp1 v b).2.length)).2.map (·.1))) (g := fp2) (fun q hq => by
        rw [j4] at hq; simp at hq
        have : ¬ q < b + (imp1 v b).2.length := by omega
        simp [this])]
      refine (i6.append j6).trans ?_
      rw [List.append_assoc, List.append_assoc]
      refine List.Perm.append_left _ ?_
      rw [← List.append_assoc, ← List.append_assoc]
      exact List.perm_append_comm.append_right _
theorem imp_sound {Rv : Nat → Prop} (pv : PV) (v : Value) (f : List Nat) (b : Nat) (σ : Nat → Option Hd) (hf : ∀ r, b ≤ r → r < b + (imp pv b).2.length → σ r = none) (hv : V w Rv σ pv v f) :
    ∃ (σ' : Nat → Option Hd) (fpN : Nat → List Nat) (g : List Nat), Le σ σ' ∧ (∀ r, (r < b ∨ b + (imp pv b).2.length ≤ r) → σ' r = σ r) ∧ V w Rv σ' (imp pv b).1 v [] ∧
      (imp pv b).2.map (·.1) = List.range' b (imp pv b).2.length ∧ (∀ x ∈ (imp pv b).2, ∃ k, σ' x.1 = some k ∧ V w Rv σ' x.2 k.hdr (fpN x.1) ∧ RootTy k x.2) ∧
      f.Perm (g ++ ((imp pv b).2.map (·.1)).flatMap fpN) := by
  cases pv with
  | tup vs =>
    simp only [V] at hv
    obtain ⟨us, rfl, hts⟩ := hv
    obtain ⟨σ', fpN, g, i1, i2, i3, i4, i5, i6⟩ := impL_sound vs us f b σ hf hts
    exact ⟨σ', fpN, g, i1, i2, by simp only [imp, V]; exact ⟨us, rfl, i3⟩, i4, i5, i6⟩
  | _ => exact imp1_sound _ v f b σ hf hv
end
end Go.Proofs.YtmanllfmgghadaaGreatDoor.PVE
namespace Go.Proofs.YtmanllfmgghadaaGreatDoor.PVE
open PV
section
variable {P : Program} {E : Env} {w0 : World} {R0 : Nat → Prop} {F0 : List Nat} {gh : Nat → Value} {n : Nat} {Fr : Nat → Prop} {R : Nat → Prop} {σ : Nat → Option Hd} {fps : Nat → List Nat} {st : St} {a : Act} {w : World} [Dm]
theorem Ts.append : ∀ {cs ds : List PV} {us vs : List Value}, Ts w R σ cs us [] → Ts w R σ ds vs [] → Ts w R σ (cs ++ ds) (us ++ vs) []
  | [], ds, us, vs, h, k => by simp only [Ts] at h; obtain ⟨rfl, _⟩ := h; exact k
  | c :: cs, ds, us, vs, h, k => by
    simp only [List.cons_append, Ts] at h ⊢
    obtain ⟨u, us', f1, f2, rfl, h1, h2, h3⟩ := h
    obtain ⟨rfl, rfl⟩ : f1 = [] ∧ f2 = [] := by simpa using h3.symm
    exact ⟨u, us' ++ vs, [], [], by simp, h1, Ts.append h2 k, rfl⟩
theorem run_callFunc_go {f : Nat} (hf : FnOk P f) (args : Array Value) (w : World) : (callFunc f args).run P w = .ok (.enter f args) w := by
  obtain ⟨fn, h1, h2, h3⟩ := hf
  have h4 : ¬ fn.body = none := by intro hb; simp [hb] at h3
  have h5 : ¬ fn.name = "runtime.NumGoroutine" := by simpa using h2
  simp [callFunc, h1, h4, h5, program, Sem.run]
theorem impF_sound {Rv : Nat → Prop} (frz : Bool) (pv : PV) (v : Value) (f : List Nat) (b : Nat) (σ : Nat → Option Hd) (hf : ∀ r, b ≤ r → r < b + (impF frz pv b).2.length → σ r = none) (hv : V w Rv σ pv v f) :
    ∃ (σ' : Nat → Option Hd) (fpN : Nat → List Nat) (g : List Nat), Le σ σ' ∧ (∀ r, (r < b ∨ b + (impF frz pv b).2.length ≤ r) → σ' r = σ r) ∧ V w (fun x => Rv x ∨ (frz = true ∧ x ∈ f)) σ' (impF frz pv b).1 v [] ∧
      (impF frz pv b).2.map (·.1) = List.range' b (impF frz pv b).2.length ∧ (∀ x ∈ (impF frz pv b).2, frz = false ∧ ∃ k, σ' x.1 = some k ∧ V w (fun x => Rv x ∨ (frz = true ∧ x ∈ f)) σ' x.2 k.hdr (fpN x.1) ∧ RootTy k x.2) ∧
      f.Perm (g ++ ((impF frz pv b).2.map (·.1)).flatMap fpN) := by
  cases frz with
  | true =>
    simp only [impF, if_true]
    refine ⟨σ, fun _ => [], f, Le.refl _, fun _ _ => rfl, ?_, by simp, by simp, by simp⟩
    exact V.mono (R := addR Rv f) (fun x hx => by rcases hx with hx | hx; exact .inl hx; exact .inr ⟨trivial, hx⟩) (Le.refl _) (fun _ _ => rfl) _ _ _ (by simp) (strip_V _ _ _ hv)
  | false =>
    simp only [impF, Bool.false_eq_true, if_false]
    obtain ⟨σ', fpN, g, i1, i2, i3, i4, i5, i6⟩ := imp_sound pv v f b σ (by simpa [impF] using hf) hv
    refine ⟨σ', fpN, g, i1, i2, V.mono (fun x hx => .inl hx) (Le.refl _) (fun _ _ => rfl) _ _ _ (by simp) i3, i4, fun x hx => ?_, i6⟩
    obtain ⟨k, k1, k2, k3⟩ := i5 x hx
    exact ⟨trivial, k, k1, V.mono (fun x hx => .inl hx) (Le.refl _) (fun _ _ => rfl) _ _ _ (fun _ _ => rfl) k2, k3⟩
theorem Bs.mono {w w' : World} {R R' : Nat → Prop} (hR : ∀ b, R b → R' b) : ∀ (us : List Value) (ps : List (Option PV)) (fb : List Nat), Bs w R us ps fb → Bs w R' us ps fb
  | [], [], fb, h => h
  | _ :: us, none :: ps, fb, h => by simp only [Bs] at h ⊢; exact Bs.mono (w' := w') hR us ps fb h
  | u :: us, some p :: ps, fb, h => by
    simp only [Bs] at h ⊢
    obtain ⟨f1, f2, h1, h2, h3⟩ := h
    exact ⟨f1, f2, V.mono hR (Le.refl _) (fun _ _ => rfl) _ _ _ (fun _ _ => rfl) h1, Bs.mono (w' := w') hR us ps f2 h2, h3⟩
  | [], _ :: _, _, h => by simp [Bs] at h
  | _ :: _, [], _, h => by simp [Bs] at h
theorem call_sound {next : Act → World → Prop} {Q : Exit → Act → World → Prop} (h : Rel w0 R0 F0 gh E.G n Fr R σ fps st a w) {o : Oper} (hd : dstOk n o.dst) {fo : Operand} {args : Array Operand} {tys : Array Nat} (ho : o.op = .call ⟨.value fo, args, tys⟩)
    {f : Nat} {caps : List PV} (hfo : ev E st fo = .fn f caps) {K : Eff → Prop} (hc : callP P E st f (args.toList.map (ev E st) ++ caps) K)
    (hFF : ∀ e, K e → ∀ r, st.next ≤ r → r < e.nx → Fr r) (hK : ∀ e w' R' σ' fps' u, K e → Rel w0 R0 F0 gh E.G n (frA Fr st.next e.nx) R' σ' fps' (st.app o.dst e) (a.put o.dst u) w' → next (a.put o.dst u) w') : o.wp P a w next Q := by
  have hV := ev_V h fo
  rw [hfo] at hV
  simp only [V] at hV
  obtain ⟨us, hfv, _, hcaps⟩ := hV
  have hts := Ts.append (evs_Ts h args.toList) hcaps
  unfold callP at hc
  split at hc
  · exact hc.elim
  rename_i A hA
  obtain ⟨⟨c1, c2, c3⟩, bks, res, al, hcall, hc⟩ := hc
  split at hc
  · exact hc.elim
  rename_i l hl
  obtain ⟨fp, m1, m2, m3⟩ := mkArgs_sound h _ _ _ _ hA hts
  have hfpm : ∀ b ∈ fp, ∃ x ∈ A.gone, b ∈ fps x := fun b hb => by
    obtain ⟨x, hx, hbx⟩ := List.mem_flatMap.1 (m2.mem_iff.1 hb); exact ⟨x, hx, hbx⟩
  have hroR : ∀ b, addR R (A.ro.flatMap fps) b → b < w.heap.size := fun b hb => by
    rcases hb with hb | hb
    · exact (h.Rb b hb).1
    · obtain ⟨x, hx, hbx⟩ := List.mem_flatMap.1 hb; exact (h.fb x b hbx).1
  have hrun : (execOp a.eval o).run P w = .ok (.enter f (args.toList.map a.eval ++ us).toArray) w := by
    have hargs : args.map a.eval ++ us.toArray = (args.toList.map a.eval ++ us).toArray := by
      apply Array.ext'; simp
    simp only [execOp, ho, resolve, hfv, Deferred.ofValue, pure_bind, invoke]
    have h0 : (#[] ++ args.map a.eval : Array Value) = args.map a.eval := by simp
    rw [h0, hargs]
    exact run_callFunc_go hcall.1 _ _
  unfold Oper.wp
  rw [hrun, Oper.upon_enter]
  obtain ⟨hfn, hcon⟩ := hcall
  have hfpn : fp.Nodup := m2.nodup_iff.2 (perm_nodup h c2)
  refine Calls.mono (hcon w (addR R (A.ro.flatMap fps)) _ fp (h.gl.mono (fun b hb => .inl hb) (fun _ _ => rfl)) (Ts.free _ _ _ c1 m1) hfpn ?_ hroR) ?_
  · intro b hb
    obtain ⟨x, hx, hbx⟩ := hfpm b hb
    refine ⟨(h.fb x b hbx).1, fun hR => ?_⟩
    rcases hR with hR | hR
    · exact (h.fb x b hbx).2.1 hR
    · obtain ⟨y, hy, hby⟩ := List.mem_flatMap.1 hR
      have hne : y ≠ x := by rintro rfl; exact c3 _ hy hx
      exact h.dj y x hne b hby hbx
  rintro e w' ⟨v, R', fr, fb, rfl, r1, r2, r3, r4, r5, r6, r7, r8, r9, r10, r11⟩
  show next (a.put o.dst v) w'
  -- what comes back
  let Rv : Nat → Prop := fun b => R b ∨ (R' b ∧ (al = false → w.heap.size ≤ b))
  have hbk := backs_sound m3 bks l fb c2 hl (Bs.mono (w' := w') (R' := Rv) (fun b hb => .inr hb) _ _ _ r2)
  obtain ⟨fpB, b1, b2, b3, b4⟩ := hbk
  have hσn : ∀ r, st.next ≤ r → r < st.next + (impF (E.M f).frz res st.next).2.length → σ r = none := fun r hr hr2 => (h.fr r (hFF _ hc r hr hr2)).1
  obtain ⟨σ', fpN, g, i1, i2, i3, i4, i5, i6⟩ := impF_sound (w := w') (Rv := Rv) (E.M f).frz res v fr st.next σ hσn (V.mono (fun b hb => .inr hb) (none_le σ) (fun _ _ => rfl) _ _ _ (fun _ _ => rfl) r1)
  have hlb : ∀ r ∈ l.map (·.1), (∃ k, σ r = some k) ∧ ¬ (st.next ≤ r ∧ r < st.next + (impF (E.M f).frz res st.next).2.length) := by
    intro r hr
    obtain ⟨x, hx, rfl⟩ := List.mem_map.1 hr
    obtain ⟨k, hk, _⟩ := b3 x hx
    exact ⟨⟨k, hk⟩, fun hle => by rw [hσn _ hle.1 hle.2] at hk; cases hk⟩
  have himp : ∀ r ∈ (impF (E.M f).frz res st.next).2.map (·.1), st.next ≤ r ∧ r < st.next + (impF (E.M f).frz res st.next).2.length := by
    intro r hr
    rw [i4] at hr
    simpa using hr
  obtain ⟨Z, hZe⟩ : ∃ Z, Z = (if al = true then frzRo st.store (hands0 (E.M f).modes (args.toList.map (ev E st) ++ caps)) else []) := ⟨_, rfl⟩
  have hZ : ∀ x ∈ Z, al = true ∧ x.1 ∈ A.ro ∧ ∃ k, σ x.1 = some k ∧ V w (addR R (A.ro.flatMap fps)) σ x.2.pv k.hdr [] ∧ RootTy k x.2.pv := by
    intro x hx
    rw [hZe] at hx
    split at hx
    · rename_i hal
      obtain ⟨q1, q2⟩ := frzRo_sound h hA x hx
      exact ⟨hal, q1, q2⟩
    · simp at hx
  have hZn : (Z.map (·.1)).Nodup := by
    rw [hZe]
    split
    · exact frzRo_nodup _ _
    · simp
  rw [← hZe] at hc
  have hadd : (l ++ (impF (E.M f).frz res st.next).2.map (fun x => (x.1, (⟨x.2, []⟩ : Root))) ++ Z).map (·.1) = l.map (·.1) ++ (impF (E.M f).frz res st.next).2.map (·.1) ++ Z.map (·.1) := by
    simp
  let fpA : Nat → List Nat := fun r => if r ∈ l.map (·.1) then fpB r else if r ∈ (impF (E.M f).frz res st.next).2.map (·.1) then fpN r else []
  have hA1 : ∀ r ∈ l.map (·.1), fpA r = fpB r := fun r hr => by simp only [fpA, hr, if_true]
  have hA2 : ∀ r ∈ (impF (E.M f).frz res st.next).2.map (·.1), fpA r = fpN r := fun r hr => by
    have : ¬ r ∈ l.map (·.1) := fun hl => (hlb r hl).2 (himp r hr)
    simp only [fpA, this, hr, if_true, if_false]
  have hZk : ∀ r ∈ Z.map (·.1), al = true ∧ r ∈ A.ro ∧ ∃ k, σ r = some k := fun r hr => by
    obtain ⟨x, hx, rfl⟩ := List.mem_map.1 hr
    obtain ⟨q1, q2, k, q3, _⟩ := hZ x hx
    exact ⟨q1, q2, k, q3⟩
  have hZl : ∀ r ∈ Z.map (·.1), r ∉ l.map (·.1) := fun r hr hl => c3 r (hZk r hr).2.1 (b2 r hl)
  have hZi : ∀ r ∈ Z.map (·.1), r ∉ (impF (E.M f).frz res st.next).2.map (·.1) := fun r hr hi => by
    obtain ⟨_, _, k, hk⟩ := hZk r hr
    obtain ⟨q1, q2⟩ := himp r hi
    rw [hσn r q1 q2] at hk
    cases hk
  have hA3 : ∀ r ∈ Z.map (·.1), fpA r = [] := fun r hr => by simp only [fpA, hZl r hr, hZi r hr, if_false]
  have hflat : (((l.map (·.1)) ++ (impF (E.M f).frz res st.next).2.map (·.1) ++ Z.map (·.1)).flatMap fpA) = (l.map (·.1)).flatMap fpB ++ ((impF (E.M f).frz res st.next).2.map (·.1)).flatMap fpN := by
    have hz : (Z.map (·.1)).flatMap fpA = [] := by rw [flatMap_same (g := fun _ => []) hA3]; simp
    rw [List.flatMap_append, List.flatMap_append, flatMap_same hA1, flatMap_same hA2, hz, List.append_nil]
  have hfbm : ∀ r ∈ l.map (·.1), ∀ b ∈ fpB r, b ∈ fb := fun r hr b hb => b4.mem_iff.2 (List.mem_flatMap.2 ⟨r, hr, hb⟩)
  have hfrm : ∀ r ∈ (impF (E.M f).frz res st.next).2.map (·.1), ∀ b ∈ fpN r, b ∈ fr := fun r hr b hb => i6.mem_iff.2 (List.mem_append_right _ (List.mem_flatMap.2 ⟨r, hr, hb⟩))
  have hnodup := List.nodup_append.1 r3
  have hfpF : ∀ b ∈ fp, b ∈ F0 ∨ w0.heap.size ≤ b := fun b hb => by
    obtain ⟨x, _, hbx⟩ := hfpm b hb; exact (h.fb x b hbx).2.2
  have hRfp : ∀ b, R b → b ∉ fp := fun b hR hb => by
    obtain ⟨x, _, hbx⟩ := hfpm b hb; exact (h.fb x b hbx).2.1 hR
  have hRR' : ∀ b, R b → R' b := fun b hb => r5 b (.inl hb)
  refine hK _ w' (fun b => Rv b ∨ ((E.M f).frz = true ∧ b ∈ fr)) σ' _ v hc (h.change (e := ⟨_, _, _, _⟩) hd fpA ?_ (fun b hb => .inl (.inl hb)) ?_ i1 (fun b hb => r7 b (h.Rb b hb).1 (hRfp b hb)) ?_ ?_ ?_ ?_ ?_ r8 r9 r10 r11 ?_ ?_ i3)
  · rw [hadd, List.nodup_append]
    refine ⟨?_, hZn, fun x hx y hy hxy => ?_⟩
    · rw [i4, List.nodup_append]
      refine ⟨b1, List.nodup_range', fun x hx y hy hxy => ?_⟩
      subst hxy
      exact (hlb x hx).2 (by simpa using hy)
    · subst hxy
      rcases List.mem_append.1 hx with hx | hx
      · exact hZl x hy hx
      · exact hZi x hy hx
  · intro b hb
    rcases hb with (hb | ⟨hb, hal⟩) | ⟨_, hb⟩
    · exact ⟨Nat.lt_of_lt_of_le (h.Rb b hb).1 r8, .inl hb⟩
    · obtain ⟨k1, k2⟩ := r6 b hb
      refine ⟨k1, ?_⟩
      rcases k2 with (k2 | k2) | k2 | k2
      · exact .inl k2
      · cases al with
        | true =>
          obtain ⟨y, hy, hby⟩ := List.mem_flatMap.1 k2
          exact .inr (.inl ⟨y, by simp [hy], hby⟩)
        | false => exact .inr (.inr (hal rfl))
      · obtain ⟨x, hx, hbx⟩ := hfpm b k2
        exact .inr (.inl ⟨x, by simp [hx], hbx⟩)
      · exact .inr (.inr k2)
    · obtain ⟨k1, k2, k3⟩ := r4 b (by simp [hb])
      refine ⟨k1, ?_⟩
      rcases k3 with k3 | k3
      · obtain ⟨x, hx, hbx⟩ := hfpm b k3
        exact .inr (.inl ⟨x, by simp [hx], hbx⟩)
      · exact .inr (.inr k3)
  · intro r hr hr' b hb
    refine r7 b (h.fb r b hb).1 fun hbf => ?_
    obtain ⟨x, hx, hbx⟩ := hfpm b hbf
    have hne : r ≠ x := by rintro rfl; exact hr (by simp [hx])
    exact h.dj r x hne b hb hbx
  · intro r x hx
    rcases List.mem_append.1 hx with hx | hx
    case inr =>
      obtain ⟨q1, q2, k, q3, q4, q5⟩ := hZ _ hx
      refine ⟨k, i1 _ _ q3, ?_, q5⟩
      rw [hA3 r (List.mem_map_of_mem (f := (·.1)) hx)]
      refine V.mono (fun b hb => .inl (.inr ⟨r5 b hb, fun he => by rw [q1] at he; cases he⟩)) i1 (fun b hb => r7 b (hroR b hb) fun hbf => ?_) _ _ _ (by simp) q4
      obtain ⟨x', hx', hbx'⟩ := hfpm b hbf
      rcases hb with hb | hb
      · exact (h.fb x' b hbx').2.1 hb
      · obtain ⟨y, hy, hby⟩ := List.mem_flatMap.1 hb
        have hne : y ≠ x' := by rintro rfl; exact c3 _ hy hx'
        exact h.dj y x' hne b hby hbx'
    rcases List.mem_append.1 hx with hx | hx
    · obtain ⟨k, k1, k2, k3⟩ := b3 _ hx
      have hm : r ∈ l.map (·.1) := List.mem_map_of_mem (f := (·.1)) hx
      refine ⟨k, i1 _ _ k1, ?_, k3⟩
      rw [hA1 r hm]
      exact V.mono (fun b hb => .inl hb) (none_le σ') (fun _ _ => rfl) _ _ _ (fun _ _ => rfl) k2
    · obtain ⟨y, hy, hyx⟩ := List.mem_map.1 hx
      simp only [Prod.mk.injEq] at hyx
      obtain ⟨rfl, rfl⟩ := hyx
      obtain ⟨_, k, k1, k2, k3⟩ := i5 y hy
      refine ⟨k, k1, ?_, k3⟩
      rw [hA2 y.1 (List.mem_map_of_mem hy)]
      exact k2
  · rw [hadd, hflat]
    have hp : (fr ++ fb).Perm (g ++ ((l.map (·.1)).flatMap fpB ++ ((impF (E.M f).frz res st.next).2.map (·.1)).flatMap fpN)) := by
      refine (i6.append b4).trans ?_
      rw [List.append_assoc]
      exact List.Perm.append_left _ List.perm_append_comm
    exact (List.nodup_append.1 (hp.nodup_iff.1 r3)).2.1
  · intro r hr b hb
    rw [hadd] at hr
    rcases List.mem_append.1 hr with hr | hr
    case inr => rw [hA3 r hr] at hb; simp at hb
    rcases List.mem_append.1 hr with hr | hr
    · rw [hA1 r hr] at hb
      have hbb := hfbm r hr b hb
      obtain ⟨k1, k2, k3⟩ := r4 b (by simp [hbb])
      refine ⟨k1, ?_, ?_⟩
      · rintro ((hb' | hb') | hb')
        · exact k2 (hRR' b hb')
        · exact k2 hb'.1
        · exact hnodup.2.2 b hb'.2 b hbb rfl
      · rcases k3 with k3 | k3
        · obtain ⟨x, hx, hbx⟩ := hfpm b k3
          exact .inl ⟨x, by simp [hx], hbx⟩
        · exact .inr k3
    · obtain ⟨y, hy, rfl⟩ := List.mem_map.1 hr
      obtain ⟨hfrz, _⟩ := i5 y hy
      rw [hA2 _ hr] at hb
      have hbb := hfrm _ hr b hb
      obtain ⟨k1, k2, k3⟩ := r4 b (by simp [hbb])
      refine ⟨k1, ?_, ?_⟩
      · rintro ((hb' | hb') | hb')
        · exact k2 (hRR' b hb')
        · exact k2 hb'.1
        · rw [hfrz] at hb'; exact absurd hb'.1 (by simp)
      · rcases k3 with k3 | k3
        · obtain ⟨x, hx, hbx⟩ := hfpm b k3
          exact .inl ⟨x, by simp [hx], hbx⟩
        · exact .inr k3
  · intro b hb hbF
    refine r7 b (Nat.lt_of_lt_of_le hb h.sz) fun hbf => ?_
    rcases hfpF b hbf with k | k
    · exact hbF k
    · omega
  · intro r hr
    have h2 := hr.2
    simp only [not_and, Nat.not_lt] at h2
    rw [i2 r (by omega)]
    exact (h.fr r hr.1).1
  · intro r hr
    rw [hadd] at hr
    rcases List.mem_append.1 hr with hr | hr
    case inr => exact .inl (hZk r hr).2.2
    rcases List.mem_append.1 hr with hr | hr
    · exact .inl (hlb r hr).1
    · exact .inr (himp r hr)
end
end Go.Proofs.YtmanllfmgghadaaGreatDoor.PVE
namespace Go.Proofs.YtmanllfmgghadaaGreatDoor.PVE
open PV
mutual
def hands : PV → List Nat
  | .own r => [r]
  | .addr r _ _ => [r]
  | .vw r _ _ => [r]
  | .agg cs => handsL cs
  | .fn _ cs => handsL cs
  | .tup cs => handsL cs
  | _ => []
def handsL : List PV → List Nat
  | [] => []
  | c :: cs => hands c ++ handsL cs
end
theorem handsL_mem {c : PV} : ∀ {cs : List PV}, c ∈ cs → ∀ r ∈ hands c, r ∈ handsL cs
  | x :: cs, h, r, hr => by
    rcases List.mem_cons.1 h with rfl | h
    · simp [handsL, hr]
    · simp [handsL, handsL_mem h r hr]
def reach (s : Nat → Option Root) (r : Nat) : List Nat := match foldR s 4 r with
  | some (_, l) => l
  | none => [r]
def touch (s : Nat → Option Root) (xs : List PV) : List Nat := (handsL xs).flatMap (reach s)
theorem reach_self (s : Nat → Option Root) (r : Nat) : r ∈ reach s r := by
  unfold reach
  cases h : foldR s 4 r with
  | none => simp
  | some x => obtain ⟨pv, l⟩ := x; exact foldR_mem h
section
variable {E : Env} {s s' : Nat → Option Root}
theorem foldR_sub (m : Nat) : ∀ (links : List (Nat × Nat)) (acc y : PV × List Nat), links.foldlM (fun acc l => match acc.1.cellAt l.1 l.2 with
      | some (.own c) => (foldR s m c).map fun x => (acc.1.put l.1 l.2 [x.1], acc.2 ++ x.2)
      | _ => some acc) acc = some y → ∀ r ∈ acc.2, r ∈ y.2
  | [], acc, y, h, r, hr => by
    simp only [List.foldlM_nil, Option.pure_def, Option.some.injEq] at h
    subst h; exact hr
  | x :: links, acc, y, h, r, hr => by
    rw [List.foldlM_cons] at h
    simp only [Option.bind_eq_bind, Option.bind_eq_some_iff] at h
    obtain ⟨z, hz, h⟩ := h
    refine foldR_sub m links z y h r ?_
    split at hz
    · rename_i c hc
      cases hf : foldR s m c with
      | none => simp [hf] at hz
      | some q => simp only [hf, Option.map_some, Option.some.injEq] at hz; subst hz; simp [hr]
    · simp only [Option.some.injEq] at hz; subst hz; exact hr
theorem foldR_local : ∀ (m r : Nat) (pv : PV) (l : List Nat), foldR s m r = some (pv, l) → (∀ x ∈ l, s x = s' x) → foldR s' m r = some (pv, l)
  | 0, r, pv, l, he, _ => by simp [foldR] at he
  | m + 1, r, pv, l, he, hs => by
    have hrl := foldR_mem he
    simp only [foldR] at he ⊢
    rw [← hs r hrl]
    cases hr : s r with
    | none => simp [hr] at he
    | some rt =>
      simp only [hr] at he ⊢
      have main : ∀ (ls : List (Nat × Nat)) (acc : PV × List Nat), ls.foldlM (fun acc l => match acc.1.cellAt l.1 l.2 with
            | some (.own c) => (foldR s m c).map fun x => (acc.1.put l.1 l.2 [x.1], acc.2 ++ x.2)
            | _ => some acc) acc = some (pv, l) → ls.foldlM (fun acc l => match acc.1.cellAt l.1 l.2 with
            | some (.own c) => (foldR s' m c).map fun x => (acc.1.put l.1 l.2 [x.1], acc.2 ++ x.2)
            | _ => some acc) acc = some (pv, l) := by
        intro ls
        induction ls with
        | nil => intro acc h; exact h
        | cons x ls ih =>
          intro acc h
          rw [List.foldlM_cons] at h ⊢
          simp only [Option.bind_eq_bind, Option.bind_eq_some_iff] at h ⊢
          obtain ⟨z, hz, h⟩ := h
          refine ⟨z, ?_, ih z h⟩
          split at hz
          · rename_i c hc
            cases hf : foldR s m c with
            | none => simp [hf] at hz
            | some q =>
              obtain ⟨qp, ql⟩ := q
              simp only [hf, Option.map_some, Option.some.injEq] at hz
              have hsub := foldR_sub m ls z (pv, l) h
              rw [foldR_local m c qp ql hf (fun y hy => hs y (hsub y (by rw [← hz]; simp [hy])))]
              simpa using hz
          · exact hz
      exact main rt.links (rt.pv, [r]) he
theorem reach_local {r : Nat} (h : ∀ x ∈ reach s r, s x = s' x) {pv : PV} {l : List Nat} (he : foldR s 4 r = some (pv, l)) : foldR s' 4 r = some (pv, l) := by
  refine foldR_local 4 r pv l he ?_
  unfold reach at h
  rw [he] at h
  exact h
theorem inl_local : ∀ (cs cs' : List PV) (l : List Nat), inl s cs = some (cs', l) → (∀ r ∈ touch s cs, s r = s' r) → inl s' cs = some (cs', l)
  | [], cs', l, he, _ => by simpa [inl] using he
  | c :: cs, cs', l, he, ht => by
    have ht1 : ∀ r ∈ touch s cs, s r = s' r := fun r hr => ht r (by unfold touch at hr ⊢; simp only [handsL, List.flatMap_append, List.mem_append]; exact .inr hr)
    cases c with
    | own r =>
      simp only [inl] at he ⊢
      split at he
      · rename_i sz es lr cs'' l' hf hi
        rw [reach_local (s := s) (s' := s') (fun x hx => ht x (by unfold touch; simp only [handsL, hands, List.flatMap_append, List.mem_append, List.flatMap_cons]; exact .inl (.inl hx))) hf, inl_local cs _ _ hi ht1]
        exact he
      · rename_i es lr cs'' l' hf hi
        rw [reach_local (s := s) (s' := s') (fun x hx => ht x (by unfold touch; simp only [handsL, hands, List.flatMap_append, List.mem_append, List.flatMap_cons]; exact .inl (.inl hx))) hf, inl_local cs _ _ hi ht1]
        exact he
      · cases he
    | nilS =>
      simp only [inl] at he ⊢
      cases hi : inl s cs with
      | none => simp [hi] at he
      | some y => rw [inl_local cs y.1 y.2 hi ht1]; rw [hi] at he; exact he
    | _ =>
      simp only [inl] at he ⊢
      split at he
      · rename_i hst
        cases hi : inl s cs with
        | none => simp [hi] at he
        | some y => rw [if_pos hst, inl_local cs y.1 y.2 hi ht1]; rw [hi] at he; exact he
      · cases he
theorem touch_one {c : PV} {s : Nat → Option Root} : touch s [c] = (hands c).flatMap (reach s) := by simp [touch, handsL]
theorem inlE_local {e e' : PV} {l : List Nat} (he : inlE s e = some (e', l)) (ht : ∀ r ∈ touch s [e], s r = s' r) : inlE s' e = some (e', l) := by
  cases e with
  | agg cs =>
    simp only [inlE] at he ⊢
    cases hi : inl s cs with
    | none => simp [hi] at he
    | some y => rw [inl_local cs y.1 y.2 hi (by rw [touch_one] at ht; exact ht)]; rw [hi] at he; exact he
  | _ =>
    simp only [inlE] at he ⊢
    split at he
    · rename_i c' l' hi
      rw [inl_local _ _ _ hi ht]
      exact he
    · cases he
theorem inlEs_local : ∀ (es es' : List PV) (l : List Nat), inlEs s es = some (es', l) → (∀ r ∈ touch s es, s r = s' r) → inlEs s' es = some (es', l)
  | [], es', l, he, _ => by simpa [inlEs] using he
  | e :: es, es', l, he, ht => by
    simp only [inlEs] at he ⊢
    split at he
    · rename_i e1 l1 es1 l2 h1 h2
      rw [inlE_local h1 (fun r hr => ht r (by rw [touch_one] at hr; unfold touch; simp only [handsL, List.flatMap_append, List.mem_append]; exact .inl hr)), inlEs_local es _ _ h2 (fun r hr => ht r (by unfold touch at hr ⊢; simp only [handsL, List.flatMap_append, List.mem_append]; exact .inr hr))]
      exact he
    · cases he
theorem sliceEs_local {t t' : Nat → PV} {n n' : Nat} {x : PV} {y : List PV × List Nat} (he : sliceEs ⟨t, s, n⟩ x = some y) (ht : ∀ r ∈ touch s [x], s r = s' r) : sliceEs ⟨t', s', n'⟩ x = some y := by
  cases x <;> simp only [sliceEs] at he ⊢ <;> try exact he
  rename_i r
  split at he
  · rename_i hf
    rw [reach_local (s := s) (s' := s') (fun x hx => ht x (by rw [touch_one]; simp only [hands, List.flatMap_cons, List.mem_append]; exact .inl hx)) hf]
    exact he
  · cases he
theorem frz_local : ∀ {xs : List PV} {y : List PV × List Nat × List (Nat × Root)}, frzCaps s xs = some y → (∀ r ∈ touch s xs, s r = s' r) → frzCaps s' xs = some y
  | [], y, he, _ => by simpa [frzCaps] using he
  | x :: xs, y, he, ht => by
    have ht1 : ∀ r ∈ touch s xs, s r = s' r := fun r hr => ht r (by unfold touch at hr ⊢; simp only [handsL, List.flatMap_append, List.mem_append]; exact .inr hr)
    have keep : (frzCaps s xs).map (fun z => (x :: z.1, z.2)) = some y → (frzCaps s' xs).map (fun z => (x :: z.1, z.2)) = some y := by
      intro he
      cases hc : frzCaps s xs with
      | none => rw [hc] at he; cases he
      | some z => rw [frz_local hc ht1]; rw [hc] at he; exact he
    cases x with
    | addr r i off =>
      cases i with
      | succ i => exact keep he
      | zero =>
        cases off with
        | succ off => exact keep he
        | zero =>
          simp only [frzCaps] at he ⊢
          have hr : ∀ {pv : PV} {l : List Nat}, foldR s 4 r = some (pv, l) → foldR s' 4 r = some (pv, l) := fun hf => reach_local (s := s) (s' := s') (fun x hx => ht x (by unfold touch; simp only [handsL, hands, List.flatMap_append, List.mem_append, List.flatMap_cons]; exact .inl (.inl hx))) hf
          split at he
          · rename_i hf hc
            rw [hr hf, frz_local hc ht1]
            exact he
          · rename_i hf hc
            rw [hr hf, frz_local hc ht1]
            exact he
          · cases he
    | _ => exact keep he
theorem store_local {x : PV} {r : Nat} (hx : r ∈ hands x) (ht : ∀ q ∈ touch s [x], s q = s' q) : s r = s' r :=
  ht r (by rw [touch_one]; exact List.mem_flatMap.2 ⟨r, hx, reach_self s r⟩)
end
theorem handsL_sub : ∀ {xs ys : List PV}, (∀ x ∈ xs, x ∈ ys) → ∀ r ∈ handsL xs, r ∈ handsL ys
  | [], _, _, r, hr => by simp [handsL] at hr
  | x :: xs, ys, h, r, hr => by
    simp only [handsL, List.mem_append] at hr
    rcases hr with hr | hr
    · exact handsL_mem (h x (by simp)) r hr
    · exact handsL_sub (fun y hy => h y (by simp [hy])) r hr
theorem touch_sub {s : Nat → Option Root} {xs ys : List PV} (h : ∀ x ∈ xs, x ∈ ys) : ∀ r ∈ touch s xs, r ∈ touch s ys := by
  intro r hr
  obtain ⟨q, hq, hr⟩ := List.mem_flatMap.1 hr
  exact List.mem_flatMap.2 ⟨q, handsL_sub h q hq, hr⟩
end Go.Proofs.YtmanllfmgghadaaGreatDoor.PVE
namespace Go.Proofs.YtmanllfmgghadaaGreatDoor.PVE
open PV
section
variable {P : Program} {E : Env} {st : St}
theorem eff_temps {st' : St} {o : Op} (hs : st.store = st'.store) (hn : st.next = st'.next) (h : ∀ x ∈ o.operands, ev E st x = ev E st' x) : eff E st o = eff E st' o := by
  obtain ⟨t, s, nx⟩ := st
  obtain ⟨t', s', nx'⟩ := st'
  simp only at hs hn
  subst hs hn
  have hmap : ∀ l : List (Nat × Operand), (∀ x ∈ l, ev E ⟨t, s, nx⟩ x.2 = ev E ⟨t', s, nx⟩ x.2) → l.map (fun x => ev E ⟨t, s, nx⟩ x.2) = l.map (fun x => ev E ⟨t', s, nx⟩ x.2) := fun l hl => List.map_congr_left hl
  have hmap2 : ∀ l : List (Nat × Operand), (∀ x ∈ l, ev E ⟨t, s, nx⟩ x.2 = ev E ⟨t', s, nx⟩ x.2) → l.map (fun x => (x.1, ev E ⟨t, s, nx⟩ x.2)) = l.map (fun x => (x.1, ev E ⟨t', s, nx⟩ x.2)) := fun l hl => List.map_congr_left fun x hx => by rw [hl x hx]
  cases o with
  | build ty ps =>
    simp only [eff]
    rw [hmap2 ps.toList fun x hx => h x.2 (by simp only [Op.operands, List.mem_toArray]; exact List.mem_map_of_mem hx)]
    rfl
  | buildSlice ty len ps =>
    simp only [eff]
    rw [hmap ps.toList fun x hx => h x.2 (by simp only [Op.operands, List.mem_toArray]; exact List.mem_map_of_mem hx)]
    rfl
  | makeFunc fn first caps =>
    simp only [eff]
    have : caps.toList.map (ev E ⟨t, s, nx⟩) = caps.toList.map (ev E ⟨t', s, nx⟩) := List.map_congr_left fun x hx => h x (by simp only [Op.operands, Array.mem_append]; exact .inr (by simpa using hx))
    rw [this]
  | slice ty x lo hi mx =>
    cases mx with
    | some m => simp [eff]
    | none =>
      simp only [eff]
      rw [h x (by simp [Op.operands])]
      have h1 : lo.map (ev E ⟨t, s, nx⟩) = lo.map (ev E ⟨t', s, nx⟩) := by
        cases lo with
        | none => rfl
        | some y => simp only [Option.map_some]; rw [h y (by simp [Op.operands])]
      have h2 : hi.map (ev E ⟨t, s, nx⟩) = hi.map (ev E ⟨t', s, nx⟩) := by
        cases hi with
        | none => rfl
        | some y => simp only [Option.map_some]; rw [h y (by simp [Op.operands])]
      rw [h1, h2]
      rfl
  | call c =>
    obtain ⟨callee, args, tys⟩ := c
    simp only [eff]
    cases callee with
    | builtin b =>
      have hx : ∀ x ∈ args.toList, ev E ⟨t, s, nx⟩ x = ev E ⟨t', s, nx⟩ x := fun x hx => h x (by simp only [Op.operands, Call.operands, Array.mem_append]; exact .inr (by simpa using hx))
      generalize args.toList = l at hx ⊢
      rcases l with _ | ⟨x, _ | ⟨y, _ | ⟨z, l⟩⟩⟩
      · cases b <;> rfl
      · have e1 := hx x (by simp)
        cases b <;> (try rfl) <;> (simp only []; rw [e1]; rfl)
      · have e1 := hx x (by simp)
        have e2 := hx y (by simp)
        cases b <;> (try rfl) <;> (simp only []; rw [e1, e2]; rfl)
      · cases b <;> rfl
    | _ => rfl
  | pick c x y => simp only [eff]; rw [h c (by simp [Op.operands]), h x (by simp [Op.operands]), h y (by simp [Op.operands])]; rfl
  | makeMap _ r => cases r <;> rfl
  | lookup _ x y ok =>
    cases ok with
    | false => simp only [eff]; rw [h x (by simp [Op.operands]), h y (by simp [Op.operands])]; rfl
    | true => rfl
  | mapUpdate _ x y z => simp only [eff]; rw [h x (by simp [Op.operands]), h y (by simp [Op.operands]), h z (by simp [Op.operands])]; rfl
  | range _ x => simp only [eff]; rw [h x (by simp [Op.operands])]; rfl
  | entry x => simp only [eff]; rw [h x (by simp [Op.operands])]; rfl
  | store _ x y => simp only [eff]; rw [h x (by simp [Op.operands]), h y (by simp [Op.operands])]; rfl
  | binOp _ _ x y _ => simp only [eff]; rw [h x (by simp [Op.operands]), h y (by simp [Op.operands])]
  | makeSlice _ x y => simp only [eff]; rw [h x (by simp [Op.operands]), h y (by simp [Op.operands])]
  | indexAddr _ x y => simp only [eff]; rw [h x (by simp [Op.operands]), h y (by simp [Op.operands])]
  | index _ x y => simp only [eff]; rw [h x (by simp [Op.operands]), h y (by simp [Op.operands])]
  | move x => simp only [eff]; rw [h x (by simp [Op.operands])]; rfl
  | assign x => simp only [eff]; rw [h x (by simp [Op.operands])]; rfl
  | box _ x => simp only [eff]; rw [h x (by simp [Op.operands])]; rfl
  | load _ x => simp only [eff]; rw [h x (by simp [Op.operands])]; rfl
  | nilCheck x => simp only [eff]; rw [h x (by simp [Op.operands])]; rfl
  | unOp _ _ x => simp only [eff]; rw [h x (by simp [Op.operands])]; rfl
  | convert _ _ x => simp only [eff]; rw [h x (by simp [Op.operands])]; rfl
  | fieldAddr _ x _ => simp only [eff]; rw [h x (by simp [Op.operands])]; rfl
  | field _ x _ => simp only [eff]; rw [h x (by simp [Op.operands])]; rfl
  | extract x _ => simp only [eff]; rw [h x (by simp [Op.operands])]; rfl
  | alloc _ => rfl
  | _ => rfl
def valsOf (E : Env) (st : St) (o : Op) : List PV := o.operands.toList.map (ev E st)
theorem val_mem {o : Op} {x : Operand} (h : x ∈ o.operands) : ev E st x ∈ valsOf E st o := List.mem_map_of_mem (by simpa using h)
theorem ev_store {t : Nat → PV} {s s' : Nat → Option Root} {n n' : Nat} (x : Operand) : ev E ⟨t, s, n⟩ x = ev E ⟨t, s', n'⟩ x := by cases x <;> rfl
theorem ev_fun {t : Nat → PV} {s s' : Nat → Option Root} {n n' : Nat} : ev E ⟨t, s, n⟩ = ev E ⟨t, s', n'⟩ := funext fun x => ev_store x
theorem eff_store {t : Nat → PV} {s s' : Nat → Option Root} {nx : Nat} {o : Op} {pe : Prop × Eff} (ht : ∀ r ∈ touch s (valsOf E ⟨t, s, nx⟩ o), s r = s' r) (he : eff E ⟨t, s, nx⟩ o = some pe) : eff E ⟨t, s', nx⟩ o = some pe := by
  have tch : ∀ {x : Operand}, x ∈ o.operands → ∀ r ∈ touch s [ev E ⟨t, s, nx⟩ x], s r = s' r := fun hx r hr => ht r (touch_sub (by simpa using val_mem hx) r hr)
  have tchc : ∀ {x : Operand}, x ∈ o.operands → ∀ r ∈ touch s (ev E ⟨t, s, nx⟩ x).cells, s r = s' r := by
    intro x hx r hr
    refine tch hx r ?_
    rw [touch_one]
    cases hv : ev E ⟨t, s, nx⟩ x <;> rw [hv] at hr <;> simp [PV.cells, touch, handsL, hands] at hr ⊢ <;> exact hr
  have dir : ∀ {x : Operand} {r : Nat}, x ∈ o.operands → r ∈ hands (ev E ⟨t, s, nx⟩ x) → s r = s' r := fun hx hr => store_local hr (tch hx)
  have hev : ev E ⟨t, s', nx⟩ = ev E ⟨t, s, nx⟩ := ev_fun
  cases o with
  | box ty x =>
    simp only [eff] at he ⊢
    rw [hev]
    split at he
    · rename_i hb
      rw [if_pos hb]
      split at he
      · rename_i cs rem hi
        rw [inl_local _ _ _ hi (tchc (by simp [Op.operands]))]
        exact he
      · cases he
    · rename_i hb
      rw [if_neg hb]
      exact he
  | buildSlice ty len parts =>
    simp only [eff] at he ⊢
    rw [hev]
    split at he
    case h_2 => cases he
    rename_i e sz by_ ze hT
    try simp only [hT]
    split at he
    case h_2 => cases he
    rename_i i hTe
    try simp only [hTe]
    split at he
    case h_2 => cases he
    rename_i es rem hi
    rw [inlEs_local (s := s) (s' := s') _ _ _ hi (fun r hr => ht r (touch_sub (fun y hy => by
      obtain ⟨x, hx, rfl⟩ := List.mem_map.1 hy
      exact val_mem (by simp only [Op.operands, List.mem_toArray]; exact List.mem_map_of_mem hx)) r hr))]
    exact he
  | load ty x =>
    simp only [eff] at he ⊢
    rw [hev]
    split at he
    case h_2 => cases he
    rename_i i hT
    try simp only [hT]
    have hd := fun r => dir (x := x) (r := r) (by simp [Op.operands])
    cases hx : ev E ⟨t, s, nx⟩ x <;> rw [hx] at he hd <;> simp only [loadE] at he ⊢ <;> try exact he
    rename_i r k off
    rw [← hd r (by simp [hands])]
    exact he
  | store ty x y =>
    simp only [eff] at he ⊢
    rw [hev]
    split at he
    case h_2 => cases he
    rename_i i hT
    try simp only [hT]
    have hd := fun r => dir (x := x) (r := r) (by simp [Op.operands])
    cases hx : ev E ⟨t, s, nx⟩ x <;> rw [hx] at he hd <;> simp only [storeE] at he ⊢ <;> try exact he
    rename_i r k off
    by_cases hvw : ∃ q x0 y0, ev E ⟨t, s, nx⟩ y = .vw q x0 y0
    · obtain ⟨q, x0, y0, hv⟩ := hvw
      have hrc := tch (x := y) (by simp [Op.operands])
      rw [hv] at he hrc ⊢
      simp only [storeX] at he ⊢
      have hro : ∀ z, roLeaf s (.vw q x0 y0) = some z → roLeaf s' (.vw q x0 y0) = some z := by
        intro z hz
        simp only [roLeaf] at hz ⊢
        split at hz
        case h_2 => cases hz
        rename_i hf
        rw [reach_local (s := s) (s' := s') (fun q' hq' => hrc q' (by rw [touch_one]; simp only [hands, List.flatMap_cons, List.mem_append]; exact .inl hq')) hf]
        exact hz
      unfold storeV at he ⊢
      simp only at he ⊢
      rw [← hd r (by simp [hands])]
      split at he
      case h_2 => cases he
      rename_i rt c rem hr hi
      rw [hr, hro _ hi]
      exact he
    have hnv : ∀ q a b, ev E ⟨t, s, nx⟩ y ≠ .vw q a b := fun q a b he => hvw ⟨q, a, b, he⟩
    rw [storeX_not hnv] at he ⊢
    unfold storeO at he ⊢
    simp only at he ⊢
    rw [← hd r (by simp [hands])]
    split at he
    case h_2 => cases he
    rename_i rt cs rem hr hi
    have ht2 : ∀ r ∈ touch s (nilC i (ev E ⟨t, s, nx⟩ y).cells), s r = s' r := by
      rcases nilC_or i (ev E ⟨t, s, nx⟩ y).cells with hn | ⟨k, _, hn⟩
      · rw [hn]; exact tchc (x := y) (by simp [Op.operands])
      · rw [hn]; intro r hr; simp [touch, handsL, hands] at hr
    have hi' : storeC ⟨t, s', nx⟩ i r (ev E ⟨t, s, nx⟩ y).cells = some (cs, rem) := by
      unfold storeC at hi ⊢
      simp only at hi ⊢
      rw [← hd r (by simp [hands])]
      split at hi
      · rename_i hc; rw [if_pos hc]; exact hi
      · rename_i hc; rw [if_neg hc]; exact inl_local _ _ _ hi ht2
    rw [hi', hr]
    exact he
  | convert src dst x =>
    simp only [eff] at he ⊢
    rw [hev]
    have hd := fun r => dir (x := x) (r := r) (by simp [Op.operands])
    generalize hx : ev E ⟨t, s, nx⟩ x = v at he hd ⊢
    simp only [convE] at he ⊢
    split at he
    case h_2 => cases he
    rename_i ts td hT1 hT2
    try simp only [hT1, hT2]
    obtain ⟨d1, z1, b1, e1⟩ := ts
    obtain ⟨d2, z2, b2, e2⟩ := td
    cases v with
    | own r =>
      have hr := hd r (by simp [hands])
      cases d1 <;> cases d2 <;> first | (simp at he; done) | (simp only at he ⊢; rw [← hr]; exact he)
    | _ => cases d1 <;> cases d2 <;> first | exact he | (simp at he; done)
  | slice ty x lo hi mx =>
    cases mx with
    | some m => simp [eff] at he
    | none =>
      simp only [eff] at he ⊢
      rw [hev]
      have hd := fun r => dir (x := x) (r := r) (by simp [Op.operands])
      have hrc := tch (x := x) (by simp [Op.operands])
      generalize hx : ev E ⟨t, s, nx⟩ x = v at he hd hrc ⊢
      split at he
      · exact he
      · rename_i el sz by_ ze hT
        split at he
        case h_2 => cases he
        rename_i i hTe
        try simp only [hTe]
        cases v <;> simp only [sliceE] at he ⊢ <;> try exact he
        · rename_i r
          rw [← hd r (by simp [hands])]
          exact he
        · rename_i r _ _
          rw [← hd r (by simp [hands])]
          exact he
      · cases he
  | indexAddr ty x ix =>
    simp only [eff] at he ⊢
    rw [hev]
    have hd := fun r => dir (x := x) (r := r) (by simp [Op.operands])
    generalize hx : ev E ⟨t, s, nx⟩ x = v at he hd ⊢
    split at he
    case h_2 => cases he
    rename_i el sz by_ ze hT
    split at he
    case h_2 => cases he
    rename_i ti n0 _ hTe hix
    try simp only [hTe, hix]
    cases v <;> try exact he
    · rename_i r
      simp only at he ⊢
      rw [← hd r (by simp [hands])]
      exact he
    · rename_i r _ _
      simp only at he ⊢
      rw [← hd r (by simp [hands])]
      exact he
  | call c =>
    obtain ⟨callee, args, tys⟩ := c
    simp only [eff] at he ⊢
    rw [hev]
    cases callee with
    | builtin b =>
      have hmem : ∀ x ∈ args.toList, x ∈ (Op.call ⟨.builtin b, args, tys⟩).operands := fun x hx => by simp only [Op.operands, Call.operands, Array.mem_append]; exact .inr (by simpa using hx)
      generalize args.toList = l at he hmem ⊢
      rcases l with _ | ⟨x, _ | ⟨y, _ | ⟨z, l⟩⟩⟩
      · cases b <;> first | exact he | (simp at he; done)
      · have hd := fun r => dir (x := x) (r := r) (hmem x (by simp))
        cases b <;> try first | exact he | (simp at he; done)
        simp only at he ⊢
        split at he
        · exact he
        · rename_i hT
          try rw [hT]
          generalize hx : ev E ⟨t, s, nx⟩ x = v at he hd ⊢
          cases v <;> simp only [lenE] at he ⊢ <;> try exact he
          rename_i r
          rw [← hd r (by simp [hands])]
          exact he
        · cases he
      · have hd := fun r => dir (x := x) (r := r) (hmem x (by simp))
        have hrc := tch (x := y) (hmem y (by simp))
        cases b <;> try first | exact he | (simp at he; done)
        simp only at he ⊢
        split at he
        case h_2 => cases he
        split at he
        case isFalse => cases he
        rename_i htt
        rw [if_pos htt]
        split at he
        case h_2 => cases he
        rename_i hT
        try rw [hT]
        try simp only
        split at he
        case h_2 => cases he
        rename_i hTe
        try rw [hTe]
        try simp only
        unfold appendE at he ⊢
        generalize hx : ev E ⟨t, s, nx⟩ x = v at he hd ⊢
        generalize hy : ev E ⟨t, s, nx⟩ y = u at he hrc ⊢
        have wl : ∀ {ti : TyI} {new : List PV} {l : List Nat} {q : Option (Prop × Eff)}, appendW ⟨t, s, nx⟩ ti v new l = q → q.isSome → appendW ⟨t, s', nx⟩ ti v new l = q := by
          intro ti new l q hq _
          unfold appendW at hq ⊢
          cases v <;> simp only at hq ⊢ <;> try exact hq
          rename_i r
          rw [← hd r (by simp [hands])]
          exact hq
        split at he
        · rename_i r x0 y0
          simp only
          have hs := hrc r (by rw [touch_one]; exact List.mem_flatMap.2 ⟨r, by simp [hands], reach_self s r⟩)
          have hvw : viewEs s' r x0 y0 = viewEs s r x0 y0 := by unfold viewEs; rw [hs]
          split at he
          case isFalse =>
            rename_i hz
            rw [if_neg hz]
            unfold appendM at he ⊢
            simp only at he ⊢
            rw [← hs]
            split at he
            case h_2 => cases he
            rename_i sz1 es1 hr1
            split at he
            case h_2 => cases he
            rename_i p' e' hw'
            rw [wl hw' rfl]
            exact he
          rename_i hz
          rw [if_pos hz]
          rw [hvw]
          split at he
          case h_2 => cases he
          rename_i new hnew
          rw [hnew]
          simp only
          unfold andE at he ⊢
          split at he
          case h_2 => cases he
          rename_i p' e' hw'
          rw [wl hw' rfl]
          exact he
        · rename_i hnv
          split at he
          case h_2 => cases he
          rename_i new l hsl
          have := sliceEs_local (t' := t) (n' := nx) hsl hrc
          rw [this]
          exact wl he rfl
      · cases b <;> first | exact he | (simp at he; done)
    | _ => exact he
  | makeMap _ r => cases r <;> exact he
  | lookup ty x y ok =>
    cases ok with
    | true => simp [eff] at he
    | false =>
      simp only [eff] at he ⊢
      rw [hev]
      have hd := fun r => dir (x := x) (r := r) (by simp [Op.operands])
      generalize hx : ev E ⟨t, s, nx⟩ x = v at he hd ⊢
      unfold lookE at he ⊢
      split at he
      case h_2 => cases he
      rename_i hT
      try rw [hT]
      try simp only
      split at he
      case h_2 => cases he
      rename_i hK1 hK2
      try rw [hK1, hK2]
      try simp only
      split at he
      case h_2 => cases he
      rename_i r cs hy
      try rw [hy]
      try simp only
      try simp only at he
      rw [← hd r (by simp [hands])]
      split at he
      case h_2 => cases he
      rename_i es hr
      first | exact he | (unfold lookV at he ⊢; exact he)
  | mapUpdate ty x y z =>
    simp only [eff] at he ⊢
    rw [hev]
    have hd := fun r => dir (x := x) (r := r) (by simp [Op.operands])
    have hz := tch (x := z) (by simp [Op.operands])
    generalize hx : ev E ⟨t, s, nx⟩ x = v at he hd ⊢
    unfold updE at he ⊢
    split at he
    case h_2 => cases he
    rename_i hT
    try rw [hT]
    try simp only
    split at he
    case h_2 => cases he
    rename_i ks hK1
    try rw [hK1]
    try simp only
    split at he
    case h_2 => cases he
    rename_i r cs hy
    try rw [hy]
    try simp only
    rw [← hd r (by simp [hands])]
    split at he
    case h_2 => cases he
    rename_i es hr
    simp only at hr
    rw [hr]
    simp only
    split at he
    case isFalse => cases he
    rename_i hk
    rw [if_pos hk]
    unfold updV at he ⊢
    split at he
    case h_2 => cases he
    rename_i xf c rem hm hi
    rw [hm, inl_local _ _ _ hi hz]
    exact he
  | range ty x =>
    simp only [eff] at he ⊢
    rw [hev]
    have hd := fun r => dir (x := x) (r := r) (by simp [Op.operands])
    generalize hx : ev E ⟨t, s, nx⟩ x = v at he hd ⊢
    unfold rangeE at he ⊢
    split at he
    case h_2 => cases he
    rename_i hT
    try rw [hT]
    try simp only
    split at he
    case h_2 => cases he
    rename_i r
    simp only at he ⊢
    rw [← hd r (by simp [hands])]
    exact he
  | entry x =>
    simp only [eff] at he ⊢
    rw [hev]
    have hd := fun r => dir (x := x) (r := r) (by simp [Op.operands])
    generalize hx : ev E ⟨t, s, nx⟩ x = v at he hd ⊢
    unfold entryE at he ⊢
    split at he
    case h_2 => cases he
    rename_i r
    simp only at he ⊢
    rw [← hd r (by simp [hands])]
    exact he
  | build ty ps => simp only [eff] at he ⊢; rw [hev]; exact he
  | makeFunc fn first caps =>
    simp only [eff] at he ⊢
    rw [hev]
    split at he
    case h_2 => cases he
    split at he
    case h_2 => cases he
    rename_i hfz
    rw [frz_local (s := s) (s' := s') hfz (fun r hr => ht r (touch_sub (fun x hx => by
      obtain ⟨y, hy, rfl⟩ := List.mem_map.1 hx
      exact val_mem (by simp only [Op.operands, Array.mem_append]; exact .inr (by simpa using hy))) r hr))]
    exact he
  | pick c x y => simp only [eff] at he ⊢; rw [hev]; exact he
  | binOp _ _ x y _ => simp only [eff] at he ⊢; rw [hev]; exact he
  | makeSlice _ x y => simp only [eff] at he ⊢; rw [hev]; exact he
  | index _ x y => simp only [eff] at he ⊢; rw [hev]; exact he
  | move x => simp only [eff] at he ⊢; rw [hev]; exact he
  | assign x => simp only [eff] at he ⊢; rw [hev]; exact he
  | nilCheck x => simp only [eff] at he ⊢; rw [hev]; exact he
  | unOp _ _ x => simp only [eff] at he ⊢; rw [hev]; exact he
  | fieldAddr _ x _ => simp only [eff] at he ⊢; rw [hev]; exact he
  | field _ x _ => simp only [eff] at he ⊢; rw [hev]; exact he
  | extract x _ => simp only [eff] at he ⊢; rw [hev]; exact he
  | alloc _ => exact he
  | _ => simp [eff] at he
theorem plain_nx {v : PV} {p : Prop} {e : Eff} (h : plainE st v = some (p, e)) : st.next ≤ e.nx := by
  simp only [plainE, Option.some.injEq, Prod.mk.injEq] at h
  obtain ⟨_, rfl⟩ := h
  exact Nat.le_refl _
theorem newRoot_nx {pv v : PV} {rem : List Nat} {p : Prop} {e : Eff} (h : newRoot st pv v rem = some (p, e)) : st.next ≤ e.nx := by
  unfold newRoot at h
  split at h
  · simp only [Option.some.injEq, Prod.mk.injEq] at h
    obtain ⟨_, rfl⟩ := h
    exact Nat.le_succ _
  · cases h
theorem appendM_nx {ti : TyI} {v : PV} {r x y : Nat} {p : Prop} {e : Eff} (hl : ∀ {new : List PV} {l : List Nat} {p : Prop} {e : Eff}, appendW st ti v new l = some (p, e) → st.next ≤ e.nx) (h : appendM st ti v r x y = some (p, e)) : st.next ≤ e.nx := by
  unfold appendM at h
  split at h
  case h_2 => cases h
  split at h
  case h_2 => cases h
  rename_i p' e' hw
  split at h
  · cases h
  simp only [Option.some.injEq, Prod.mk.injEq] at h
  obtain ⟨_, rfl⟩ := h
  have := hl hw
  exact this
theorem andE_some {q : Prop} {x : Option (Prop × Eff)} {p : Prop} {e : Eff} (h : andE q x = some (p, e)) : ∃ p', x = some (p', e) := by
  unfold andE at h
  split at h
  · simp only [Option.some.injEq, Prod.mk.injEq] at h
    obtain ⟨_, rfl⟩ := h
    exact ⟨_, rfl⟩
  · cases h
theorem appendW_nx {ti : TyI} {v : PV} {new : List PV} {l : List Nat} {p : Prop} {e : Eff} (h : appendW st ti v new l = some (p, e)) : st.next ≤ e.nx := by
  unfold appendW at h
  split at h
  · split at h
    · simp only [Option.some.injEq, Prod.mk.injEq] at h
      obtain ⟨_, rfl⟩ := h
      exact Nat.le_succ _
    · cases h
  · split at h
    · split at h
      · simp only [Option.some.injEq, Prod.mk.injEq] at h
        obtain ⟨_, rfl⟩ := h
        exact Nat.le_succ _
      · cases h
    · cases h
  · cases h
theorem eff_nx {o : Op} {p : Prop} {e : Eff} (he : eff E st o = some (p, e)) : st.next ≤ e.nx := by
  have fin : ∀ {q : Prop} {e' : Eff}, some (q, e') = some (p, e) → st.next ≤ e'.nx → st.next ≤ e.nx := by
    intro q e' h hl
    simp only [Option.some.injEq, Prod.mk.injEq] at h
    obtain ⟨_, rfl⟩ := h
    exact hl
  unfold eff at he
  repeat' (first
    | exact plain_nx he
    | exact newRoot_nx he
    | (cases he; done)
    | exact fin he (Nat.le_refl _)
    | exact fin he (Nat.le_succ _)
    | exact fin he (Nat.le_add_right _ _)
    | (unfold loadE at he)
    | (unfold loadPro at he)
    | (unfold mkMapE at he)
    | (unfold lookE at he)
    | (unfold lookV at he)
    | (unfold updE at he)
    | (unfold updV at he)
    | (unfold rangeE at he)
    | (unfold entryE at he)
    | (unfold storeE at he)
    | (unfold storeX at he)
    | (unfold storeO at he)
    | (unfold storeV at he)
    | exact appendM_nx appendW_nx he
    | (unfold sliceE at he)
    | (unfold sliceStrE at he)
    | (unfold convE at he)
    | (unfold appendE at he)
    | exact appendW_nx he
    | (obtain ⟨p', he'⟩ := andE_some he; exact appendW_nx he')
    | (unfold lenE at he)
    | (unfold lenStrE at he)
    | split at he
    | (dsimp only at he))
end
end Go.Proofs.YtmanllfmgghadaaGreatDoor.PVE
