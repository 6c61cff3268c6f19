/- The PV engine, part 24: what leaves a frame. -/
import Derived.Test.YtanbccpabgcmaaaGreatDoorE23
import Derived.Deep.LoopGhost
set_option linter.unusedVariables false
set_option linter.unusedSimpArgs false
set_option linter.unusedSectionVars false
namespace Go.Proofs.YtanbccpabgcmaaaGreatDoor.PVE
open PV

section
variable {P : Program} {E : Env} {w0 : World} {R0 : Nat → Prop} {F0 : List Nat} {gh : Nat → Value} {n : Nat} {Fr : Nat → Prop} {R : Nat → Prop} {σ : Nat → Option Hd} {fps : Nat → List Nat} {st : St} {a : Act} {w : World}

mutual
theorem V.noR {R' : Nat → Prop} : ∀ (pv : PV) (v : Value) (f : List Nat), pv.noR → V w R σ pv v f → V w R' σ pv v f
  | .undef, _, _, _, h | .void, _, _, _, h | .bool _, _, _, _, h | .int _ _, _, _, _, h | .str _, _, _, _, h | .lit _, _, _, _, h | .nilS, _, _, _, h | .ifc, _, _, _, h
  | .own _, _, _, _, h | .addr _ _ _, _, _, _, h | .vw _ _ _, _, _, _, h => by
    simpa only [V] using h
  | .sl es, v, f, hn, h => by
    simp only [PV.noR] at hn
    subst hn
    simp only [V] at h ⊢
    obtain ⟨h1, A, cap, us, sz, h2, h3, h4, h5, h6⟩ := h
    exact ⟨h1, A, cap, us, sz, h2, h3, h4, fun h => by simp at h, by simpa only [Es] using h6⟩
  | .slo sz es, v, f, hn, h => by
    simp only [V] at h ⊢
    obtain ⟨us, fp', h1, h2, h3⟩ := h
    exact ⟨us, fp', h1, Es.noR sz es us fp' hn h2, h3⟩
  | .agg cs, v, f, hn, h => by
    simp only [V] at h ⊢
    obtain ⟨us, h1, h2⟩ := h
    exact ⟨us, h1, Cs.noR cs us f hn h2⟩
  | .pro cs, v, f, hn, h => by simp only [PV.noR] at hn
  | .pto cs, v, f, hn, h => by
    simp only [V] at h ⊢
    obtain ⟨b, us, e, fp', h1, h2, h3, h4⟩ := h
    exact ⟨b, us, e, fp', h1, h2, Cs.noR cs us fp' hn h3, h4⟩
  | .tup cs, v, f, hn, h => by
    simp only [V] at h ⊢
    obtain ⟨us, h1, h2⟩ := h
    exact ⟨us, h1, Ts.noR cs us f hn h2⟩
  | .fn g cs, v, f, hn, h => by
    simp only [V] at h ⊢
    obtain ⟨us, h1, h2, h3⟩ := h
    exact ⟨us, h1, h2, Ts.noR cs us [] hn h3⟩
theorem Cs.noR {R' : Nat → Prop} : ∀ (cs : List PV) (us : List Value) (f : List Nat), PV.noRL cs → Cs w R σ cs us f → Cs w R' σ cs us f
  | [], us, f, hn, h => by simpa only [Cs] using h
  | c :: cs, us, f, hn, h => by
    simp only [Cs] at h ⊢
    obtain ⟨u, us', f1, f2, h0, h1, h2, h3, h4⟩ := h
    exact ⟨u, us', f1, f2, h0, h1, V.noR c u f1 hn.1 h2, Cs.noR cs us' f2 hn.2 h3, h4⟩
theorem Es.noR {R' : Nat → Prop} : ∀ (sz : Nat) (cs : List PV) (us : List Value) (f : List Nat), PV.noRL cs → Es w R σ sz cs us f → Es w R' σ sz cs us f
  | sz, [], us, f, hn, h => by simpa only [Es] using h
  | sz, c :: cs, us, f, hn, h => by
    simp only [Es] at h ⊢
    obtain ⟨v, us', f1, f2, h0, h1, h2, hu, h3, h4, h5⟩ := h
    exact ⟨v, us', f1, f2, h0, h1, h2, hu, V.noR c v f1 hn.1 h3, Es.noR sz cs us' f2 hn.2 h4, h5⟩
theorem Ts.noR {R' : Nat → Prop} : ∀ (cs : List PV) (us : List Value) (f : List Nat), PV.noRL cs → Ts w R σ cs us f → Ts w R' σ cs us f
  | [], us, f, hn, h => by simpa only [Ts] using h
  | c :: cs, us, f, hn, h => by
    simp only [Ts] at h ⊢
    obtain ⟨u, us', f1, f2, h0, h2, h3, h4⟩ := h
    exact ⟨u, us', f1, f2, h0, V.noR c u f1 hn.1 h2, Ts.noR cs us' f2 hn.2 h3, h4⟩
end

theorem exp1_sound (h : Rel w0 R0 F0 gh E.G n Fr R σ fps st a w) {pv pv' : PV} {v : Value} {l : List Nat} (he : exp1 st.store pv = some (pv', l)) (hv : V w R σ pv v []) :
    ∃ f, V w R σ pv' v f ∧ f.Perm (l.flatMap fps) := by
  cases pv with
  | own r =>
    simp only [exp1] at he
    obtain ⟨k, f, hk, hV, hty, hp⟩ := fold_sound h 4 r _ _ he
    simp only [V] at hv
    obtain ⟨_, k', hk', rfl, _⟩ := hv
    obtain rfl : k = k' := by rw [hk] at hk'; exact Option.some.inj hk'
    exact ⟨f, hV, hp⟩
  | addr r i o =>
    cases i with
    | succ i => simp [exp1] at he
    | zero =>
      cases o with
      | succ o => simp [exp1] at he
      | zero =>
        simp only [exp1] at he
        split at he
        case h_2 => cases he
        rename_i cs l' hfo
        simp only [Option.some.injEq, Prod.mk.injEq] at he
        obtain ⟨rfl, rfl⟩ := he
        obtain ⟨k, f, hk, hV, hty, hp⟩ := fold_sound h 4 r _ _ hfo
        simp only [V] at hv
        obtain ⟨_, k', b, hk', hb, rfl⟩ := hv
        obtain rfl : k = k' := by rw [hk] at hk'; exact Option.some.inj hk'
        have hhdr : k.hdr = .pointer (some ⟨b, 0, none⟩) := by
          simp only [V] at hV
          obtain ⟨b', us2, e, fp', h1, _⟩ := hV
          rw [h1] at hb ⊢
          simp [blkOf] at hb
          rw [hb]
        simp only [Nat.zero_mul, Nat.add_zero]
        rw [← hhdr]
        exact ⟨f, hV, hp⟩
  | agg cs =>
    simp only [exp1] at he
    cases hi : inl st.store cs with
    | none => simp [hi] at he
    | some x =>
      simp only [hi, Option.map_some, Option.some.injEq, Prod.mk.injEq] at he
      obtain ⟨rfl, rfl⟩ := he
      obtain ⟨f, h1, h2, _⟩ := inl_cells h (e := .agg cs) hi hv
      simp only [V] at hv
      obtain ⟨us, rfl, hc⟩ := hv
      exact ⟨f, by simp only [V]; exact ⟨us, rfl, by simpa [Value.cells] using h1⟩, h2⟩
  | undef => simp [exp1] at he
  | vw r a b => simp [exp1] at he
  | tup vs => simp [exp1] at he
  | _ =>
    simp only [exp1, Option.some.injEq, Prod.mk.injEq] at he
    obtain ⟨rfl, rfl⟩ := he
    exact ⟨[], hv, by simp⟩

theorem expK_sound (h : Rel w0 R0 F0 gh E.G n Fr R σ fps st a w) {pv' res : PV} {l : List Nat} {v : Value} {f g : List Nat} {K : List Nat → List Nat → Prop} (he : ExpK (some (pv', l)) res K) (h1 : V w R σ pv' v f) (h2 : (f ++ g).Perm (l.flatMap fps)) :
    ∃ lo lf f g, K lo lf ∧ V w (addR R (lf.flatMap fps)) σ res v f ∧ (f ++ g).Perm (lo.flatMap fps) := by
  unfold ExpK at he
  rcases he with ⟨he, hK⟩ | ⟨rfl, hK⟩
  · refine ⟨l, [], f, g, hK, V.mono (fun b hb => .inl hb) (Le.refl _) (fun _ _ => rfl) _ _ _ (fun _ _ => rfl) ?_, h2⟩
    rcases he with rfl | ⟨rfl, sz, rfl⟩
    · exact h1
    · simp only [V] at h1
      obtain ⟨rfl, rfl⟩ := h1
      simp only [V, Es]
      refine ⟨[], [], ⟨by simp, .inl ⟨rfl, rfl⟩⟩, ⟨rfl, rfl⟩, by simp [blkOf]⟩
  · exact ⟨[], l, [], [], hK, V.mono (R := addR R f) (fun b hb => by rcases hb with hb | hb; exact .inl hb; exact .inr (h2.mem_iff.1 (List.mem_append_left _ hb))) (Le.refl _) (fun _ _ => rfl) _ _ _ (by simp) (strip_V _ _ _ h1), by simp⟩

theorem run_loadVar' (hT : TyOk P E.T) {t : Nat} {i : TyI} (hi : E.T t = some i) {ad : Addr} {us : List Value} (hl : us.length = i.size) (hc : ∀ j u, us[j]? = some u → w.cell? (ad.add j) = some u) :
    (loadVar t ad).run P w = .ok (if isAggT i then .agg us.toArray else us.headD Go.undef) w := by
  obtain ⟨_, ti, z, g1, g2, g3, g4, g5, g6, g7, g8, g9⟩ := hT t i hi
  have hag := run_isAgg hT hi w
  cases hb : isAggT i with
  | true =>
    rw [hb] at hag
    have hload := run_loadCells_list (P := P) w ad us hc
    rw [hl] at hload
    simp [loadVar, hag, sizeOf, typeInfo, g1, g3, hload]
  | false =>
    rw [hb] at hag
    have h1 : i.size = 1 := by rw [← g5, oneCell_cells (g8 hb)]; rfl
    match us, hl with
    | [u], _ =>
      have := hc 0 u rfl
      have had : ad.add 0 = ad := by simp [Addr.add]
      rw [had] at this
      simp [loadVar, hag, this]
    | [], hl => simp [h1] at hl
    | _ :: _ :: _, hl => simp [h1] at hl

/-- The run that yields a result. -/
def rvRun (tmps : Array Value) : ResultVar → Sem Value
  | .tmp t => pure (tmps.getD t Go.undef)
  | .cell a t => do loadVar t (← asAddr (tmps.getD a Go.undef))

theorem rv_sound (hT : TyOk P E.T) (h : Rel w0 R0 F0 gh E.G n Fr R σ fps st a w) {rv : ResultVar} {pv' : PV} {l : List Nat} (he : expRV E st rv = some (pv', l)) :
    ∃ v f g, (rvRun a.tmps rv).run P w = .ok v w ∧ V w R σ pv' v f ∧ (f ++ g).Perm (l.flatMap fps) := by
  cases rv with
  | tmp t =>
    simp only [expRV] at he
    obtain ⟨f, h1, h2⟩ := exp1_sound h he (ev_V h (.tmp t))
    exact ⟨_, f, [], rfl, h1, by simpa using h2⟩
  | cell t ty =>
    simp only [expRV] at he
    split at he
    case h_2 => cases he
    rename_i i r hi ht
    split at he
    case h_2 => cases he
    rename_i cs l' hfo
    split at he
    case isFalse => cases he
    rename_i hsz
    simp only [Option.some.injEq, Prod.mk.injEq] at he
    obtain ⟨rfl, rfl⟩ := he
    obtain ⟨k, f, hk, hV, hty, hp⟩ := fold_sound h 4 r _ _ hfo
    have hv := ev_V h (.tmp t)
    rw [ht] at hv
    simp only [V, Act.eval] at hv
    obtain ⟨_, k', b, hk', hb, hval⟩ := hv
    obtain rfl : k = k' := by rw [hk] at hk'; exact Option.some.inj hk'
    simp only [V] at hV
    obtain ⟨b', us, e, fp', h1, h2, h3, rfl⟩ := hV
    rw [h1] at hb
    simp only [blkOf, Option.some.injEq] at hb
    subst hb
    simp only [Nat.zero_mul, Nat.add_zero] at hval
    have hcell : ∀ j u, us[j]? = some u → w.cell? ((⟨b', 0, none⟩ : Addr).add j) = some u := fun j u hu => by
      rw [add_lit', cell_of_row w b' _ us.toArray e (0, 0) h2]
      simpa using hu
    have hrun := run_loadVar' (P := P) hT hi (by rw [h3.length, hsz]) hcell
    refine ⟨if isAggT i = true then Value.agg us.toArray else us.headD Go.undef, fp', [b'], ?_, ?_, (List.perm_append_comm).trans hp⟩
    · simp only [rvRun, hval]
      simp only [asAddr, Sem.run_bind, Sem.run_pure]
      exact hrun
    · obtain ⟨_, ti, z, g1, g2, g3, g4, g5, g6, g7, g8, g9⟩ := hT ty i hi
      cases hb : isAggT i with
      | true => simp only [if_true, V]; exact ⟨us, rfl, h3⟩
      | false =>
        have h1 : i.size = 1 := by rw [← g5, oneCell_cells (g8 hb)]; rfl
        rw [h1] at hsz
        match cs, hsz with
        | [c], _ =>
          simp only [Cs] at h3
          obtain ⟨u, us', f1, f2, rfl, _, h4, ⟨rfl, rfl⟩, rfl⟩ := h3
          simpa using h4
        | [], hl => simp at hl
        | _ :: _ :: _, hl => simp at hl

theorem expL_sound (hT : TyOk P E.T) (h : Rel w0 R0 F0 gh E.G n Fr R σ fps st a w) : ∀ (ts : List ResultVar) (ps : List PV) (K : List Nat → List Nat → Prop), ExpL E st ts ps K →
    ∃ lo lf f g vs, K lo lf ∧ (List.mapM (rvRun a.tmps) ts).run P w = .ok vs w ∧ Ts w (addR R (lf.flatMap fps)) σ ps vs f ∧ (f ++ g).Perm (lo.flatMap fps)
  | [], [], K, he => ⟨[], [], [], [], [], he, by simp, by simp [Ts], by simp⟩
  | t :: ts, p :: ps, K, he => by
    simp only [ExpL] at he
    obtain ⟨v, l1, f1, q1, g1, hv, k1, k2, k3⟩ : ∃ v l1 f1 q1 g1, (rvRun a.tmps t).run P w = .ok v w ∧ (ExpL E st ts ps fun l' f' => K (l1 ++ l') (f1 ++ f')) ∧ V w (addR R (f1.flatMap fps)) σ p v q1 ∧ (q1 ++ g1).Perm (l1.flatMap fps) := by
      rcases he with he | he
      · cases hx : expRV E st t with
        | none => rw [hx] at he; exact he.elim
        | some x =>
          obtain ⟨pv', l0⟩ := x
          rw [hx] at he
          obtain ⟨v, f0, g0, hv, h1, h2⟩ := rv_sound (P := P) hT h hx
          obtain ⟨l1, f1, q1, g1, k1, k2, k3⟩ := expK_sound h he h1 h2
          exact ⟨v, l1, f1, q1, g1, hv, k1, k2, k3⟩
      · unfold ExpZ at he
        split at he
        · exact he.elim
        rename_i v0 l0 hx
        obtain ⟨rfl, hk⟩ := he
        cases t with
        | cell a b => simp [expVW] at hx
        | tmp t =>
          simp only [expVW] at hx
          split at hx
          case h_2 => cases hx
          rename_i r x0 y0 hev
          have hvv := ev_V h (.tmp t)
          rw [hev] at hvv
          exact ⟨_, [], l0, [], [], rfl, hk, roLeaf_sound h hx hvv, by simp⟩
    · obtain ⟨l2, f2, q2, g2, vs, h4, h5, h6, h7⟩ := expL_sound hT h ts ps _ k1
      refine ⟨l1 ++ l2, f1 ++ f2, q1 ++ q2, g1 ++ g2, v :: vs, h4, ?_, ?_, ?_⟩
      · simp only [List.mapM_cons, Sem.run_bind, hv, Sem.run_pure, Result.andThen, h5]
      · simp only [Ts]
        refine ⟨_, _, q1, q2, rfl, V.mono (fun b hb => ?_) (Le.refl _) (fun _ _ => rfl) _ _ _ (fun _ _ => rfl) k2, Ts.mono (fun b hb => ?_) (Le.refl _) (fun _ _ => rfl) _ _ _ (fun _ _ => rfl) h6, rfl⟩
        · rcases hb with hb | hb
          · exact .inl hb
          · exact .inr (by rw [List.flatMap_append]; simp [hb])
        · rcases hb with hb | hb
          · exact .inl hb
          · exact .inr (by rw [List.flatMap_append]; simp [hb])
      · rw [List.flatMap_append]
        refine List.Perm.trans ?_ (k3.append h7)
        rw [List.append_assoc, List.append_assoc]
        refine List.Perm.append_left _ ?_
        rw [← List.append_assoc, ← List.append_assoc]
        exact List.perm_append_comm.append_right _
  | [], _ :: _, _, he => by simp [ExpL] at he
  | _ :: _, [], _, he => by simp [ExpL] at he

def resOf : List Value → Value
  | [v] => v
  | vs => .tuple vs.toArray
theorem results_run {fn : Func} {ts : List ResultVar} {tmps : Array Value} {w' : World} {vs : List Value} (h : fn.results = ts.toArray) (hr : (List.mapM (rvRun tmps) ts).run P w = .ok vs w') :
    (results fn tmps).run P w = .ok (resOf vs) w' := by
  have hF : ∀ F : ResultVar → Sem Value, (∀ rv, F rv = rvRun tmps rv) → List.mapM F ts = List.mapM (rvRun tmps) ts := fun F hF => by rw [show F = rvRun tmps from funext hF]
  unfold results
  rw [h, List.mapM_toArray, hF _ (fun rv => by cases rv <;> rfl)]
  simp only [Sem.run_bind, Sem.run_map, hr]
  rcases vs with _ | ⟨v, _ | ⟨u, vs⟩⟩ <;> simp [resOf, Result.andThen]

theorem Ts.size {us : List Value} : ∀ {cs : List PV} {us : List Value} {f : List Nat}, Ts w R σ cs us f → us.length = cs.length
  | [], us, f, h => by simp only [Ts] at h; simp [h.1]
  | c :: cs, us, f, h => by
    simp only [Ts] at h
    obtain ⟨u, us', f1, f2, rfl, _, h2, _⟩ := h
    simp [Ts.size (us := us') h2]
theorem impL_len : ∀ (args : List PV) (b : Nat), (impL args b).1.length = args.length
  | [], _ => rfl
  | c :: cs, b => by simp [impL, impL_len cs]

theorem backL_sound (h : Rel w0 R0 F0 gh E.G n Fr R σ fps st a w) : ∀ (i : Nat) (bks : List (Option PV)) (vs : List Value) (K : List Nat → Prop), BackL st i bks K → bks.length = vs.length → (∀ j v, vs[j]? = some v → gh (i + j) = v) →
    ∃ lb fb, K lb ∧ fb.Perm (lb.flatMap fps) ∧ (∀ Rv : Nat → Prop, ((∀ b, R b → Rv b) ∨ noRB bks) → Bs w Rv vs bks fb)
  | i, [], vs, K, hb, hl, hg => by
    have : vs = [] := List.length_eq_zero_iff.1 hl.symm
    subst this
    exact ⟨[], [], hb, by simp, fun _ _ => by simp [Bs]⟩
  | i, none :: bks, vs, K, hb, hl, hg => by
    cases vs with
    | nil => simp at hl
    | cons v vs =>
      obtain ⟨lb, fb, h1, h2, h3⟩ := backL_sound h (i + 1) bks vs K hb (by simpa using hl) (fun j v hj => by rw [Nat.add_assoc, Nat.add_comm 1 j]; exact hg (j + 1) v (by simpa using hj))
      exact ⟨lb, fb, h1, h2, fun Rv hR => by simp only [Bs]; exact h3 Rv hR⟩
  | i, some p :: bks, vs, K, hb, hl, hg => by
    cases vs with
    | nil => simp at hl
    | cons v vs =>
      simp only [BackL] at hb
      split at hb
      case h_2 => exact hb.elim
      rename_i pv' l he
      obtain ⟨⟨rfl, hf⟩, hb⟩ := hb
      have htm := h.tm (gBase + i)
      have hv : tmv gh a (gBase + i) = v := by
        unfold tmv
        rw [if_neg (by omega)]
        have := hg 0 v rfl
        simpa using this
      rw [hv] at htm
      obtain ⟨f, h4, h5⟩ := exp1_sound h he htm
      obtain ⟨lb, fb, h1, h2, h3⟩ := backL_sound h (i + 1) bks vs _ hb (by simpa using hl) (fun j v hj => by rw [Nat.add_assoc, Nat.add_comm 1 j]; exact hg (j + 1) v (by simpa using hj))
      refine ⟨l ++ lb, f ++ fb, h1, by rw [List.flatMap_append]; exact h5.append h2, fun Rv hR => ?_⟩
      simp only [Bs]
      refine ⟨f, fb, ?_, h3 Rv (hR.imp id fun h => h.2), rfl⟩
      have h6 := V.free (σ' := fun _ => none) _ _ _ hf h4
      rcases hR with hR | hR
      · exact V.mono hR (Le.refl _) (fun _ _ => rfl) _ _ _ (fun _ _ => rfl) h6
      · exact V.noR _ _ _ hR.1 h6


theorem expAll_expL {s : St} : ∀ (ts : List ResultVar) (ns : List Nat) (ps : List PV) (l : List Nat) (K : List Nat → List Nat → Prop), expAll E s ts ns = some (ps, l) → K l [] → ExpL E s ts ps K
  | [], ns, ps, l, K, he, hK => by
    simp only [expAll, Option.some.injEq, Prod.mk.injEq] at he
    obtain ⟨rfl, rfl⟩ := he
    simpa only [ExpL] using hK
  | t :: ts, ns, ps, l, K, he, hK => by
    simp only [expAll] at he
    split at he
    case h_2 => cases he
    rename_i pv l1 pvs l2 h1 h2
    simp only [Option.some.injEq, Prod.mk.injEq] at he
    obtain ⟨rfl, rfl⟩ := he
    simp only [ExpL, h1, ExpK]
    refine .inl (.inl ⟨?_, ?_⟩)
    · cases pv <;> first | exact .inl rfl | exact .inr ⟨rfl, _, rfl⟩
    · exact expAll_expL ts ns.tail pvs l2 _ h2 (by simpa using hK)
theorem expAll_frz {s : St} : ∀ (ts : List ResultVar) (ps : List PV) (l : List Nat) (K : List Nat → List Nat → Prop), frzAll E s ts = some (ps, l) → K [] l → ExpL E s ts ps K
  | [], ps, l, K, he, hK => by
    simp only [frzAll, Option.some.injEq, Prod.mk.injEq] at he
    obtain ⟨rfl, rfl⟩ := he
    simpa only [ExpL] using hK
  | t :: ts, ps, l, K, he, hK => by
    simp only [frzAll] at he
    split at he
    case h_2 => cases he
    rename_i pv l1 pvs l2 h1 h2
    simp only [Option.some.injEq, Prod.mk.injEq] at he
    obtain ⟨rfl, rfl⟩ := he
    have ih := expAll_frz ts pvs l2 (fun l' f' => K ([] ++ l') (l1 ++ f')) h2 (by simpa using hK)
    simp only [ExpL]
    unfold frz1 at h1
    split at h1
    · rename_i x hx
      obtain rfl := Option.some.inj h1
      refine .inr ?_
      rw [hx]
      exact ⟨rfl, ih⟩
    · cases hx : expRV E s t with
      | none => rw [hx] at h1; cases h1
      | some x =>
        rw [hx] at h1
        simp only [Option.map_some, Option.some.injEq, Prod.mk.injEq] at h1
        obtain ⟨rfl, rfl⟩ := h1
        exact .inl (.inr ⟨rfl, ih⟩)
theorem frzAll_len {s : St} : ∀ (ts : List ResultVar) (ps : List PV) (l : List Nat), frzAll E s ts = some (ps, l) → ps.length = ts.length
  | [], ps, l, he => by
    simp only [frzAll, Option.some.injEq, Prod.mk.injEq] at he
    obtain ⟨rfl, rfl⟩ := he
    rfl
  | t :: ts, ps, l, he => by
    simp only [frzAll] at he
    split at he
    case h_2 => cases he
    rename_i pv l1 pvs l2 h1 h2
    simp only [Option.some.injEq, Prod.mk.injEq] at he
    obtain ⟨rfl, rfl⟩ := he
    simp [frzAll_len ts pvs l2 h2]
theorem backAll_backL {s : St} : ∀ (ms : List Nat) (i : Nat) (bs : List (Option PV)) (l : List Nat) (K : List Nat → Prop), backAll s i ms = some (bs, l) → freeB bs → K l → BackL s i bs K ∧ bs.length = ms.length
  | [], i, bs, l, K, he, hf, hK => by
    simp only [backAll, Option.some.injEq, Prod.mk.injEq] at he
    obtain ⟨rfl, rfl⟩ := he
    exact ⟨by simpa only [BackL] using hK, rfl⟩
  | m :: ms, i, bs, l, K, he, hf, hK => by
    simp only [backAll] at he
    split at he
    · cases he
    rename_i bs1 l1 h1
    split at he
    · split at he
      · rename_i p l2 h2
        simp only [Option.some.injEq, Prod.mk.injEq] at he
        obtain ⟨rfl, rfl⟩ := he
        simp only [freeB] at hf
        obtain ⟨h3, h4⟩ := backAll_backL ms (i + 1) bs1 l1 (fun l' => K (l2 ++ l')) h1 hf.2 hK
        simp only [BackL, h2]
        exact ⟨⟨⟨by trivial, hf.1⟩, h3⟩, by simp [h4]⟩
      · cases he
    · simp only [Option.some.injEq, Prod.mk.injEq] at he
      obtain ⟨rfl, rfl⟩ := he
      simp only [freeB] at hf
      obtain ⟨h3, h4⟩ := backAll_backL ms (i + 1) bs1 _ K h1 hf hK
      simp only [BackL]
      exact ⟨h3, by simp [h4]⟩
theorem expAll_len {s : St} : ∀ (ts : List ResultVar) (ns : List Nat) (ps : List PV) (l : List Nat), expAll E s ts ns = some (ps, l) → ps.length = ts.length
  | [], ns, ps, l, he => by
    simp only [expAll, Option.some.injEq, Prod.mk.injEq] at he
    obtain ⟨rfl, rfl⟩ := he
    rfl
  | t :: ts, ns, ps, l, he => by
    simp only [expAll] at he
    split at he
    case h_2 => cases he
    rename_i pv l1 pvs l2 h1 h2
    simp only [Option.some.injEq, Prod.mk.injEq] at he
    obtain ⟨rfl, rfl⟩ := he
    simp [expAll_len ts ns.tail pvs l2 h2]
theorem mkRes_free {ts : List ResultVar} {ps : List PV} (hl : ps.length = ts.length) (h : PV.freeL ps) : (mkRes ts ps).free := by
  rcases ts with _ | ⟨t, _ | ⟨u, ts⟩⟩
  · exact h
  · match ps, hl with
    | [p], _ => exact h.1
  · exact h
theorem mkRes_noR {ts : List ResultVar} {ps : List PV} (hl : ps.length = ts.length) (h : PV.noRL ps) : (mkRes ts ps).noR := by
  rcases ts with _ | ⟨t, _ | ⟨u, ts⟩⟩
  · exact h
  · match ps, hl with
    | [p], _ => exact h.1
  · exact h
theorem fin_of {ts : List ResultVar} {ps : List PV} {bks : List (Option PV)} {al : Bool} {s : St} (hl : ps.length = ts.length) (h : ExpL E s ts ps fun lo lf => BackL s 0 bks fun lb => (lo ++ lb).Nodup ∧ ∀ r ∈ lf, r ∉ lo ++ lb) (hf : PV.freeL ps) (hn : al = false → PV.noRL ps ∧ noRB bks) : Fin E ts (mkRes ts ps) bks al s := by
  refine ⟨⟨ps, ?_, h⟩, mkRes_free hl hf, fun ha => ⟨mkRes_noR hl (hn ha).1, (hn ha).2⟩⟩
  rcases ts with _ | ⟨t, _ | ⟨u, ts⟩⟩
  · rfl
  · match ps, hl with
    | [p], _ => rfl
  · rfl
theorem finR_fin {F : Fx} {s : St} {p : Prop} {ans : Ans} (he : finR E F s = some (p, ans)) (hp : p) : Fin E F.ts ans.res ans.bks F.cm.al s ∧ ans.bks.length = F.cm.modes.length := by
  unfold finR at he
  split at he
  · split at he
    case h_2 => cases he
    rename_i ps l bks lb h1 h2
    simp only [Option.some.injEq, Prod.mk.injEq] at he
    obtain ⟨rfl, rfl⟩ := he
    obtain ⟨q1, q2, q3, q4, q5⟩ := hp
    obtain ⟨b1, b2⟩ := backAll_backL _ _ _ _ (fun lb => ([] ++ lb).Nodup ∧ ∀ r ∈ l, r ∉ [] ++ lb) h2 q3 ⟨by simpa using q1, by simpa using q2⟩
    exact ⟨fin_of (frzAll_len _ _ _ h1) (expAll_frz _ _ _ _ h1 b1) q4 q5, b2⟩
  · split at he
    case h_2 => cases he
    rename_i ps l bks lb h1 h2
    have hlen := expAll_len _ _ _ _ h1
    simp only [Option.some.injEq, Prod.mk.injEq] at he
    obtain ⟨rfl, rfl⟩ := he
    obtain ⟨q1, q3, q4, q5⟩ := hp
    obtain ⟨b1, b2⟩ := backAll_backL _ _ _ _ (fun lb => (l ++ lb).Nodup ∧ ∀ r ∈ ([] : List Nat), r ∉ l ++ lb) h2 q3 ⟨q1, by simp⟩
    exact ⟨fin_of hlen (expAll_expL _ _ _ _ _ h1 b1) q4 q5, b2⟩
end
end Go.Proofs.YtanbccpabgcmaaaGreatDoor.PVE
