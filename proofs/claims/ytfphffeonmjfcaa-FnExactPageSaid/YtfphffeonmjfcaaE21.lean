/- The PV engine, part 21: a contract out of the transformer. -/
import Derived.Test.YtfphffeonmjfcaaE20
set_option linter.unusedVariables false
set_option linter.unusedSimpArgs false
set_option linter.unusedSectionVars false
namespace Go.Proofs.Ytfphffeonmjfcaa.PVE
open PV

/-- A value that leaves the frame: what it owns goes with it. -/
def exp1 (s : Nat → Option Root) : PV → Option (PV × List Nat)
  | .own r => foldR s 4 r
  | .addr r 0 0 => match foldR s 4 r with
    | some (.pto cs, l) => some (.pto cs, l)
    | _ => none
  | .addr _ _ _ => none
  | .agg cs => (inl s cs).map fun x => (.agg x.1, x.2)
  | .undef => none
  | .tup _ => none
  | pv => some (pv, [])

mutual
/-- It shows no memory that is only read. -/
def PV.noR : PV → Prop
  | .sl es => es = []
  | .pro _ => False
  | .agg cs => PV.noRL cs
  | .tup cs => PV.noRL cs
  | .fn _ cs => PV.noRL cs
  | .slo _ es => PV.noRL es
  | .pto cs => PV.noRL cs
  | _ => True
def PV.noRL : List PV → Prop
  | [] => True
  | c :: cs => PV.noR c ∧ PV.noRL cs
end

/-- The value of a result variable. -/
def expRV (E : Env) (s : St) : ResultVar → Option (PV × List Nat)
  | .tmp t => exp1 s.store (ev E s (.tmp t))
  | .cell t ty => match E.T ty, ev E s (.tmp t) with
    | some i, .addr r 0 0 => match foldR s.store 4 r with
      | some (.pto cs, l) => if cs.length = i.size then some (if isAggT i then .agg cs else cs.headD .undef, l) else none
      | _ => none
    | _, _ => none
/-- As the answer res: what it owns is handed on, or only read from then on. -/
def ExpK (x : Option (PV × List Nat)) (res : PV) (K : List Nat → List Nat → Prop) : Prop :=
  match x with
  | none => False
  | some (pv', l) => ((res = pv' ∨ (pv' = .nilS ∧ ∃ sz, res = .slo sz [])) ∧ K l []) ∨ (res = pv'.strip ∧ K [] l)
def ExpL (E : Env) (s : St) : List ResultVar → List PV → (List Nat → List Nat → Prop) → Prop
  | [], [], K => K [] []
  | t :: ts, p :: ps, K => ExpK (expRV E s t) p fun l f => ExpL E s ts ps fun l' f' => K (l ++ l') (f ++ f')
  | _, _, _ => False
/-- What is given back. -/
def BackL (s : St) : Nat → List (Option PV) → (List Nat → Prop) → Prop
  | _, [], K => K []
  | i, none :: bs, K => BackL s (i + 1) bs K
  | i, some p :: bs, K => match exp1 s.store (s.temps (gBase + i)) with
    | some (pv', l) => (p = pv' ∧ p.free) ∧ BackL s (i + 1) bs fun l' => K (l ++ l')
    | none => False
def noRB : List (Option PV) → Prop
  | [] => True
  | none :: bs => noRB bs
  | some p :: bs => p.noR ∧ noRB bs
def Fin (E : Env) (ts : List ResultVar) (res : PV) (bks : List (Option PV)) (al : Bool) (s : St) : Prop :=
  (∃ ps, (match ts with
    | [_] => ps = [res]
    | _ => res = .tup ps) ∧ ExpL E s ts ps fun lo lf => BackL s 0 bks fun lb => (lo ++ lb).Nodup ∧ ∀ r ∈ lf, r ∉ lo ++ lb) ∧ res.free ∧ (al = false → res.noR ∧ noRB bks)

/-- The frame's state when the call begins. -/
def isOwn : PV → Bool
  | .slo _ _ => true
  | .pto _ => true
  | _ => false
def entry (args : List PV) : St := ⟨fun t => if t < gBase then ((impL args 0).1[t]?).getD .void else if ((args[t - gBase]?).any isOwn) = true then ((impL args 0).1[t - gBase]?).getD .undef else .undef, fun r => ((impL args 0).2[r]?).map fun x => ⟨x.2, []⟩, (impL args 0).2.length⟩

section
variable {P : Program} {E : Env} {w0 : World} {R0 : Nat → Prop} {F0 : List Nat} {gh : Nat → Value} {n : Nat} {R : Nat → Prop} {σ : Nat → Option Hd} {fps : Nat → List Nat} {st : St} {a : Act} {w : World}

mutual
theorem V.noR {R' : Nat → Prop} : ∀ (pv : PV) (v : Value) (f : List Nat), pv.noR → V w R σ pv v f → V w R' σ pv v f
  | .undef, _, _, _, h | .void, _, _, _, h | .bool _, _, _, _, h | .int _ _, _, _, _, h | .str _, _, _, _, h | .lit _, _, _, _, h | .nilS, _, _, _, h
  | .own _, _, _, _, h | .addr _ _ _, _, _, _, h => by
    simpa only [V] using h
  | .sl es, v, f, hn, h => by
    simp only [PV.noR] at hn
    subst hn
    simp only [V] at h ⊢
    obtain ⟨h1, A, cap, us, sz, h2, h3, h4, h5, h6⟩ := h
    exact ⟨h1, A, cap, us, sz, h2, h3, h4, fun h => by simp at h, by simpa only [Es] using h6⟩
  | .slo sz es, v, f, hn, h => by
    simp only [V] at h ⊢
    obtain ⟨us, fp', h1, h2, h3⟩ := h
    exact ⟨us, fp', h1, Es.noR sz es us fp' hn h2, h3⟩
  | .agg cs, v, f, hn, h => by
    simp only [V] at h ⊢
    obtain ⟨us, h1, h2⟩ := h
    exact ⟨us, h1, Cs.noR cs us f hn h2⟩
  | .pro cs, v, f, hn, h => by simp only [PV.noR] at hn
  | .pto cs, v, f, hn, h => by
    simp only [V] at h ⊢
    obtain ⟨b, us, e, fp', h1, h2, h3, h4⟩ := h
    exact ⟨b, us, e, fp', h1, h2, Cs.noR cs us fp' hn h3, h4⟩
  | .tup cs, v, f, hn, h => by
    simp only [V] at h ⊢
    obtain ⟨us, h1, h2⟩ := h
    exact ⟨us, h1, Ts.noR cs us f hn h2⟩
  | .fn g cs, v, f, hn, h => by
    simp only [V] at h ⊢
    obtain ⟨us, h1, h2, h3⟩ := h
    exact ⟨us, h1, h2, Ts.noR cs us [] hn h3⟩
theorem Cs.noR {R' : Nat → Prop} : ∀ (cs : List PV) (us : List Value) (f : List Nat), PV.noRL cs → Cs w R σ cs us f → Cs w R' σ cs us f
  | [], us, f, hn, h => by simpa only [Cs] using h
  | c :: cs, us, f, hn, h => by
    simp only [Cs] at h ⊢
    obtain ⟨u, us', f1, f2, h0, h1, h2, h3, h4⟩ := h
    exact ⟨u, us', f1, f2, h0, h1, V.noR c u f1 hn.1 h2, Cs.noR cs us' f2 hn.2 h3, h4⟩
theorem Es.noR {R' : Nat → Prop} : ∀ (sz : Nat) (cs : List PV) (us : List Value) (f : List Nat), PV.noRL cs → Es w R σ sz cs us f → Es w R' σ sz cs us f
  | sz, [], us, f, hn, h => by simpa only [Es] using h
  | sz, c :: cs, us, f, hn, h => by
    simp only [Es] at h ⊢
    obtain ⟨v, us', f1, f2, h0, h1, h2, hu, h3, h4, h5⟩ := h
    exact ⟨v, us', f1, f2, h0, h1, h2, hu, V.noR c v f1 hn.1 h3, Es.noR sz cs us' f2 hn.2 h4, h5⟩
theorem Ts.noR {R' : Nat → Prop} : ∀ (cs : List PV) (us : List Value) (f : List Nat), PV.noRL cs → Ts w R σ cs us f → Ts w R' σ cs us f
  | [], us, f, hn, h => by simpa only [Ts] using h
  | c :: cs, us, f, hn, h => by
    simp only [Ts] at h ⊢
    obtain ⟨u, us', f1, f2, h0, h2, h3, h4⟩ := h
    exact ⟨u, us', f1, f2, h0, V.noR c u f1 hn.1 h2, Ts.noR cs us' f2 hn.2 h3, h4⟩
end

theorem exp1_sound (h : Rel w0 R0 F0 gh E.G n R σ fps st a w) {pv pv' : PV} {v : Value} {l : List Nat} (he : exp1 st.store pv = some (pv', l)) (hv : V w R σ pv v []) :
    ∃ f, V w R σ pv' v f ∧ f.Perm (l.flatMap fps) := by
  cases pv with
  | own r =>
    simp only [exp1] at he
    obtain ⟨k, f, hk, hV, hty, hp⟩ := fold_sound h 4 r _ _ he
    simp only [V] at hv
    obtain ⟨_, k', hk', rfl, _⟩ := hv
    obtain rfl : k = k' := by rw [hk] at hk'; exact Option.some.inj hk'
    exact ⟨f, hV, hp⟩
  | addr r i o =>
    cases i with
    | succ i => simp [exp1] at he
    | zero =>
      cases o with
      | succ o => simp [exp1] at he
      | zero =>
        simp only [exp1] at he
        split at he
        case h_2 => cases he
        rename_i cs l' hfo
        simp only [Option.some.injEq, Prod.mk.injEq] at he
        obtain ⟨rfl, rfl⟩ := he
        obtain ⟨k, f, hk, hV, hty, hp⟩ := fold_sound h 4 r _ _ hfo
        simp only [V] at hv
        obtain ⟨_, k', b, hk', hb, rfl⟩ := hv
        obtain rfl : k = k' := by rw [hk] at hk'; exact Option.some.inj hk'
        have hhdr : k.hdr = .pointer (some ⟨b, 0, none⟩) := by
          simp only [V] at hV
          obtain ⟨b', us2, e, fp', h1, _⟩ := hV
          rw [h1] at hb ⊢
          simp [blkOf] at hb
          rw [hb]
        simp only [Nat.zero_mul, Nat.add_zero]
        rw [← hhdr]
        exact ⟨f, hV, hp⟩
  | agg cs =>
    simp only [exp1] at he
    cases hi : inl st.store cs with
    | none => simp [hi] at he
    | some x =>
      simp only [hi, Option.map_some, Option.some.injEq, Prod.mk.injEq] at he
      obtain ⟨rfl, rfl⟩ := he
      obtain ⟨f, h1, h2, _⟩ := inl_cells h (e := .agg cs) hi hv
      simp only [V] at hv
      obtain ⟨us, rfl, hc⟩ := hv
      exact ⟨f, by simp only [V]; exact ⟨us, rfl, by simpa [Value.cells] using h1⟩, h2⟩
  | undef => simp [exp1] at he
  | tup vs => simp [exp1] at he
  | _ =>
    simp only [exp1, Option.some.injEq, Prod.mk.injEq] at he
    obtain ⟨rfl, rfl⟩ := he
    exact ⟨[], hv, by simp⟩

theorem expK_sound (h : Rel w0 R0 F0 gh E.G n R σ fps st a w) {pv' res : PV} {l : List Nat} {v : Value} {f g : List Nat} {K : List Nat → List Nat → Prop} (he : ExpK (some (pv', l)) res K) (h1 : V w R σ pv' v f) (h2 : (f ++ g).Perm (l.flatMap fps)) :
    ∃ lo lf f g, K lo lf ∧ V w (addR R (lf.flatMap fps)) σ res v f ∧ (f ++ g).Perm (lo.flatMap fps) := by
  unfold ExpK at he
  rcases he with ⟨he, hK⟩ | ⟨rfl, hK⟩
  · refine ⟨l, [], f, g, hK, V.mono (fun b hb => .inl hb) (Le.refl _) (fun _ _ => rfl) _ _ _ (fun _ _ => rfl) ?_, h2⟩
    rcases he with rfl | ⟨rfl, sz, rfl⟩
    · exact h1
    · simp only [V] at h1
      obtain ⟨rfl, rfl⟩ := h1
      simp only [V, Es]
      refine ⟨[], [], ⟨by simp, .inl ⟨rfl, rfl⟩⟩, ⟨rfl, rfl⟩, by simp [blkOf]⟩
  · exact ⟨[], l, [], [], hK, V.mono (R := addR R f) (fun b hb => by rcases hb with hb | hb; exact .inl hb; exact .inr (h2.mem_iff.1 (List.mem_append_left _ hb))) (Le.refl _) (fun _ _ => rfl) _ _ _ (by simp) (strip_V _ _ _ h1), by simp⟩

theorem run_loadVar' (hT : TyOk P E.T) {t : Nat} {i : TyI} (hi : E.T t = some i) {ad : Addr} {us : List Value} (hl : us.length = i.size) (hc : ∀ j u, us[j]? = some u → w.cell? (ad.add j) = some u) :
    (loadVar t ad).run P w = .ok (if isAggT i then .agg us.toArray else us.headD Go.undef) w := by
  obtain ⟨_, ti, z, g1, g2, g3, g4, g5, g6, g7, g8, g9⟩ := hT t i hi
  have hag := run_isAgg hT hi w
  cases hb : isAggT i with
  | true =>
    rw [hb] at hag
    have hload := run_loadCells_list (P := P) w ad us hc
    rw [hl] at hload
    simp [loadVar, hag, sizeOf, typeInfo, g1, g3, hload]
  | false =>
    rw [hb] at hag
    have h1 : i.size = 1 := by rw [← g5, oneCell_cells (g8 hb)]; rfl
    match us, hl with
    | [u], _ =>
      have := hc 0 u rfl
      have had : ad.add 0 = ad := by simp [Addr.add]
      rw [had] at this
      simp [loadVar, hag, this]
    | [], hl => simp [h1] at hl
    | _ :: _ :: _, hl => simp [h1] at hl

/-- The run that yields a result. -/
def rvRun (tmps : Array Value) : ResultVar → Sem Value
  | .tmp t => pure (tmps.getD t Go.undef)
  | .cell a t => do loadVar t (← asAddr (tmps.getD a Go.undef))

theorem rv_sound (hT : TyOk P E.T) (h : Rel w0 R0 F0 gh E.G n R σ fps st a w) {rv : ResultVar} {pv' : PV} {l : List Nat} (he : expRV E st rv = some (pv', l)) :
    ∃ v f g, (rvRun a.tmps rv).run P w = .ok v w ∧ V w R σ pv' v f ∧ (f ++ g).Perm (l.flatMap fps) := by
  cases rv with
  | tmp t =>
    simp only [expRV] at he
    obtain ⟨f, h1, h2⟩ := exp1_sound h he (ev_V h (.tmp t))
    exact ⟨_, f, [], rfl, h1, by simpa using h2⟩
  | cell t ty =>
    simp only [expRV] at he
    split at he
    case h_2 => cases he
    rename_i i r hi ht
    split at he
    case h_2 => cases he
    rename_i cs l' hfo
    split at he
    case isFalse => cases he
    rename_i hsz
    simp only [Option.some.injEq, Prod.mk.injEq] at he
    obtain ⟨rfl, rfl⟩ := he
    obtain ⟨k, f, hk, hV, hty, hp⟩ := fold_sound h 4 r _ _ hfo
    have hv := ev_V h (.tmp t)
    rw [ht] at hv
    simp only [V, Act.eval] at hv
    obtain ⟨_, k', b, hk', hb, hval⟩ := hv
    obtain rfl : k = k' := by rw [hk] at hk'; exact Option.some.inj hk'
    simp only [V] at hV
    obtain ⟨b', us, e, fp', h1, h2, h3, rfl⟩ := hV
    rw [h1] at hb
    simp only [blkOf, Option.some.injEq] at hb
    subst hb
    simp only [Nat.zero_mul, Nat.add_zero] at hval
    have hcell : ∀ j u, us[j]? = some u → w.cell? ((⟨b', 0, none⟩ : Addr).add j) = some u := fun j u hu => by
      rw [add_lit', cell_of_row w b' _ us.toArray e (0, 0) h2]
      simpa using hu
    have hrun := run_loadVar' (P := P) hT hi (by rw [h3.length, hsz]) hcell
    refine ⟨if isAggT i = true then Value.agg us.toArray else us.headD Go.undef, fp', [b'], ?_, ?_, (List.perm_append_comm).trans hp⟩
    · simp only [rvRun, hval]
      simp only [asAddr, Sem.run_bind, Sem.run_pure]
      exact hrun
    · obtain ⟨_, ti, z, g1, g2, g3, g4, g5, g6, g7, g8, g9⟩ := hT ty i hi
      cases hb : isAggT i with
      | true => simp only [if_true, V]; exact ⟨us, rfl, h3⟩
      | false =>
        have h1 : i.size = 1 := by rw [← g5, oneCell_cells (g8 hb)]; rfl
        rw [h1] at hsz
        match cs, hsz with
        | [c], _ =>
          simp only [Cs] at h3
          obtain ⟨u, us', f1, f2, rfl, _, h4, ⟨rfl, rfl⟩, rfl⟩ := h3
          simpa using h4
        | [], hl => simp at hl
        | _ :: _ :: _, hl => simp at hl

theorem expL_sound (hT : TyOk P E.T) (h : Rel w0 R0 F0 gh E.G n R σ fps st a w) : ∀ (ts : List ResultVar) (ps : List PV) (K : List Nat → List Nat → Prop), ExpL E st ts ps K →
    ∃ lo lf f g vs, K lo lf ∧ (List.mapM (rvRun a.tmps) ts).run P w = .ok vs w ∧ Ts w (addR R (lf.flatMap fps)) σ ps vs f ∧ (f ++ g).Perm (lo.flatMap fps)
  | [], [], K, he => ⟨[], [], [], [], [], he, by simp, by simp [Ts], by simp⟩
  | t :: ts, p :: ps, K, he => by
    simp only [ExpL] at he
    cases hx : expRV E st t with
    | none => rw [hx] at he; exact he.elim
    | some x =>
      obtain ⟨pv', l0⟩ := x
      rw [hx] at he
      obtain ⟨v, f0, g0, hv, h1, h2⟩ := rv_sound (P := P) hT h hx
      obtain ⟨l1, f1, q1, g1, k1, k2, k3⟩ := expK_sound h he h1 h2
      obtain ⟨l2, f2, q2, g2, vs, h4, h5, h6, h7⟩ := expL_sound hT h ts ps _ k1
      refine ⟨l1 ++ l2, f1 ++ f2, q1 ++ q2, g1 ++ g2, v :: vs, h4, ?_, ?_, ?_⟩
      · simp only [List.mapM_cons, Sem.run_bind, hv, Sem.run_pure, Result.andThen, h5]
      · simp only [Ts]
        refine ⟨_, _, q1, q2, rfl, V.mono (fun b hb => ?_) (Le.refl _) (fun _ _ => rfl) _ _ _ (fun _ _ => rfl) k2, Ts.mono (fun b hb => ?_) (Le.refl _) (fun _ _ => rfl) _ _ _ (fun _ _ => rfl) h6, rfl⟩
        · rcases hb with hb | hb
          · exact .inl hb
          · exact .inr (by rw [List.flatMap_append]; simp [hb])
        · rcases hb with hb | hb
          · exact .inl hb
          · exact .inr (by rw [List.flatMap_append]; simp [hb])
      · rw [List.flatMap_append]
        refine List.Perm.trans ?_ (k3.append h7)
        rw [List.append_assoc, List.append_assoc]
        refine List.Perm.append_left _ ?_
        rw [← List.append_assoc, ← List.append_assoc]
        exact List.perm_append_comm.append_right _
  | [], _ :: _, _, he => by simp [ExpL] at he
  | _ :: _, [], _, he => by simp [ExpL] at he

def resOf : List Value → Value
  | [v] => v
  | vs => .tuple vs.toArray
theorem results_run {fn : Func} {ts : List ResultVar} {tmps : Array Value} {w' : World} {vs : List Value} (h : fn.results = ts.toArray) (hr : (List.mapM (rvRun tmps) ts).run P w = .ok vs w') :
    (results fn tmps).run P w = .ok (resOf vs) w' := by
  have hF : ∀ F : ResultVar → Sem Value, (∀ rv, F rv = rvRun tmps rv) → List.mapM F ts = List.mapM (rvRun tmps) ts := fun F hF => by rw [show F = rvRun tmps from funext hF]
  unfold results
  rw [h, List.mapM_toArray, hF _ (fun rv => by cases rv <;> rfl)]
  simp only [Sem.run_bind, Sem.run_map, hr]
  rcases vs with _ | ⟨v, _ | ⟨u, vs⟩⟩ <;> simp [resOf, Result.andThen]

theorem Ts.size {us : List Value} : ∀ {cs : List PV} {us : List Value} {f : List Nat}, Ts w R σ cs us f → us.length = cs.length
  | [], us, f, h => by simp only [Ts] at h; simp [h.1]
  | c :: cs, us, f, h => by
    simp only [Ts] at h
    obtain ⟨u, us', f1, f2, rfl, _, h2, _⟩ := h
    simp [Ts.size (us := us') h2]
theorem impL_len : ∀ (args : List PV) (b : Nat), (impL args b).1.length = args.length
  | [], _ => rfl
  | c :: cs, b => by simp [impL, impL_len cs]

theorem backL_sound (h : Rel w0 R0 F0 gh E.G n R σ fps st a w) : ∀ (i : Nat) (bks : List (Option PV)) (vs : List Value) (K : List Nat → Prop), BackL st i bks K → bks.length = vs.length → (∀ j v, vs[j]? = some v → gh (i + j) = v) →
    ∃ lb fb, K lb ∧ fb.Perm (lb.flatMap fps) ∧ (∀ Rv : Nat → Prop, ((∀ b, R b → Rv b) ∨ noRB bks) → Bs w Rv vs bks fb)
  | i, [], vs, K, hb, hl, hg => by
    have : vs = [] := List.length_eq_zero_iff.1 hl.symm
    subst this
    exact ⟨[], [], hb, by simp, fun _ _ => by simp [Bs]⟩
  | i, none :: bks, vs, K, hb, hl, hg => by
    cases vs with
    | nil => simp at hl
    | cons v vs =>
      obtain ⟨lb, fb, h1, h2, h3⟩ := backL_sound h (i + 1) bks vs K hb (by simpa using hl) (fun j v hj => by rw [Nat.add_assoc, Nat.add_comm 1 j]; exact hg (j + 1) v (by simpa using hj))
      exact ⟨lb, fb, h1, h2, fun Rv hR => by simp only [Bs]; exact h3 Rv hR⟩
  | i, some p :: bks, vs, K, hb, hl, hg => by
    cases vs with
    | nil => simp at hl
    | cons v vs =>
      simp only [BackL] at hb
      split at hb
      case h_2 => exact hb.elim
      rename_i pv' l he
      obtain ⟨⟨rfl, hf⟩, hb⟩ := hb
      have htm := h.tm (gBase + i)
      have hv : tmv gh a (gBase + i) = v := by
        unfold tmv
        rw [if_neg (by omega)]
        have := hg 0 v rfl
        simpa using this
      rw [hv] at htm
      obtain ⟨f, h4, h5⟩ := exp1_sound h he htm
      obtain ⟨lb, fb, h1, h2, h3⟩ := backL_sound h (i + 1) bks vs _ hb (by simpa using hl) (fun j v hj => by rw [Nat.add_assoc, Nat.add_comm 1 j]; exact hg (j + 1) v (by simpa using hj))
      refine ⟨l ++ lb, f ++ fb, h1, by rw [List.flatMap_append]; exact h5.append h2, fun Rv hR => ?_⟩
      simp only [Bs]
      refine ⟨f, fb, ?_, h3 Rv (hR.imp id fun h => h.2), rfl⟩
      have h6 := V.free (σ' := fun _ => none) _ _ _ hf h4
      rcases hR with hR | hR
      · exact V.mono hR (Le.refl _) (fun _ _ => rfl) _ _ _ (fun _ _ => rfl) h6
      · exact V.noR _ _ _ hR.1 h6

/-- A CONTRACT: out of the transformer over the body. -/
theorem pcalls_of_pwp {f : Nat} {fn : Func} {c : Code} {ts : List ResultVar} (hT : TyOk P E.T) (hm : P.follows .mixedOrders = true) (hf : P.funcs[f]? = some fn) (hname : (fn.name == "runtime.NumGoroutine") = false) (hb : fn.body = some c)
    (hres : fn.results = ts.toArray) {args : List PV} {bks : List (Option PV)} {res : PV} {al : Bool} (hbk : bks.length = args.length) (hn : args.length ≤ fn.ntmps)
    (h : pwp P E fn.ntmps c (fun ex s => match ex with
      | .exit _ => False
      | _ => Fin E ts res bks al s) (entry args)) : PCalls P E.G f args bks res al := by
  refine ⟨⟨fn, hf, hname, by simp [hb]⟩, ?_⟩
  intro w R vs fp hG hts hnd hfp hRb
  obtain ⟨σ', fpN, g, i1, i2, i3, i4, i5, i6⟩ := impL_sound (w := w) (Rv := R) args vs fp 0 (fun _ => none) (by simp) hts
  have hvl : vs.length = args.length := Ts.size (us := vs) hts
  have hl1 : (impL args 0).1.length = args.length := impL_len args 0
  have hnd' := (List.nodup_append.1 (i6.nodup_iff.1 hnd)).2.1
  have hid : ∀ (r : Nat) (x : Nat × PV), (impL args 0).2[r]? = some x → x.1 = r := by
    intro r x hx
    have : ((impL args 0).2.map (·.1))[r]? = some x.1 := by rw [List.getElem?_map, hx]; rfl
    rw [i4] at this
    have hlt := (List.getElem?_eq_some_iff.1 hx).1
    rw [List.getElem?_range' hlt] at this
    simp at this
    omega
  have hmem : ∀ r, r < (impL args 0).2.length → r ∈ (impL args 0).2.map (·.1) := fun r hr => by rw [i4]; simp; omega
  have hsub : ∀ r, r < (impL args 0).2.length → ∀ b ∈ fpN r, b ∈ fp := fun r hr b hb => i6.mem_iff.2 (List.mem_append_right _ (List.mem_flatMap.2 ⟨r, hmem r hr, hb⟩))
  have hrel : Rel w R fp (fun i => vs.getD i Go.undef) E.G fn.ntmps R σ' (fun r => if r < (impL args 0).2.length then fpN r else []) (entry args) { tmps := vs.toArray ++ Array.replicate (fn.ntmps - vs.toArray.size) Go.undef, defers := [] } w := by
    refine ⟨fun t => ?_, fun r x hx => ?_, fun r hx => ?_, fun r => ?_, fun r s hrs b hb => ?_, fun r b hb => ?_, fun b hb => ⟨hRb b hb, .inl hb⟩, fun b hb => hb, fun _ _ _ => rfl, Nat.le_refl _, rfl, rfl, rfl, fun r hr => ?_, hG, ?_, rfl⟩
    · simp only [entry, tmv]
      by_cases htg : ¬ t < gBase
      · simp only [htg, if_false]
        split
        · cases hc : (impL args 0).1[t - gBase]? with
          | none => simp [V]
          | some c =>
            obtain ⟨u, h1, h2⟩ := i3.at hc
            have : vs.getD (t - gBase) Go.undef = u := by rw [List.getD_eq_getElem?_getD, h1]; rfl
            rw [this]
            exact h2
        · simp [V]
      have htg : t < gBase := by omega
      simp only [htg, if_true]
      by_cases ht : t < vs.length
      · obtain ⟨c, hc⟩ : ∃ c, (impL args 0).1[t]? = some c := ⟨_, List.getElem?_eq_getElem (by omega)⟩
        obtain ⟨u, h1, h2⟩ := i3.at hc
        rw [hc]
        simp only [Option.getD_some]
        have : (vs.toArray ++ Array.replicate (fn.ntmps - vs.toArray.size) Go.undef).getD t Go.undef = u := by
          rw [Array.getD_eq_getD_getElem?, Array.getElem?_append_left (by simpa using ht)]
          simp [h1]
        rw [this]
        exact h2
      · rw [List.getElem?_eq_none (by omega)]
        simp only [Option.getD_none, V]
        refine ⟨?_, trivial⟩
        rw [Array.getD_eq_getD_getElem?, Array.getElem?_append_right (by simpa using ht)]
        simp only [Array.getElem?_replicate]
        split <;> rfl
    · simp only [entry] at hx
      cases hy : (impL args 0).2[r]? with
      | none => simp [hy] at hx
      | some y =>
        simp only [hy, Option.map_some, Option.some.injEq] at hx
        subst hx
        have hlt := (List.getElem?_eq_some_iff.1 hy).1
        obtain ⟨k, k1, k2, k3⟩ := i5 y (List.mem_of_getElem? hy)
        have := hid r y hy
        subst this
        refine ⟨k, k1, ?_, k3⟩
        simp only [hlt, if_true]
        exact k2
    · by_cases hlt : r < (impL args 0).2.length
      · simp [entry, hlt] at hx
      · simp [hlt]
    · by_cases hlt : r < (impL args 0).2.length
      · simp only [hlt, if_true]
        exact (nodup_flat hnd').1 r (hmem r hlt)
      · simp [hlt]
    · by_cases h1 : r < (impL args 0).2.length
      · by_cases h2 : s < (impL args 0).2.length
        · simp only [h1, h2, if_true] at hb ⊢
          exact (nodup_flat hnd').2 r (hmem r h1) s (hmem s h2) hrs b hb
        · simp [h2]
      · simp [h1] at hb
    · by_cases h1 : r < (impL args 0).2.length
      · simp only [h1, if_true] at hb
        have hbf := hsub r h1 b hb
        exact ⟨(hfp b hbf).1, (hfp b hbf).2, .inl hbf⟩
      · simp [h1] at hb
    · have hr' : (impL args 0).2.length ≤ r := hr
      refine ⟨by rw [i2 r (.inr (by omega))], ?_⟩
      simp [entry, List.getElem?_eq_none hr']
    · simp only [Array.size_append, Array.size_replicate, List.size_toArray]
      omega
  refine calls_of_wp hf hb ?_
  refine pwp_sound (w0 := w) (R0 := R) (F0 := fp) (gh := fun i => vs.getD i Go.undef) hT hm c _ _ ?_ (entry args) _ w ⟨_, _, _, hrel⟩ h
  intro ex st a w' hr hq
  have main : Fin E ts res bks al st → a.defers = [] ∧ ∃ v, (results fn a.tmps).run P w' = .ok v w' ∧ ∃ (v' : Value) (R' : Nat → Prop) (fr fb : List Nat), Ending.returned v = .returned v' ∧
      V w' (fun b => R' b ∧ (al = false → w.heap.size ≤ b)) (fun _ => none) res v' fr ∧ Bs w' (fun b => R' b ∧ (al = false → w.heap.size ≤ b)) vs bks fb ∧ (fr ++ fb).Nodup ∧
      (∀ b ∈ fr ++ fb, b < w'.heap.size ∧ ¬ R' b ∧ (b ∈ fp ∨ w.heap.size ≤ b)) ∧ (∀ b, R b → R' b) ∧
      (∀ b, R' b → b < w'.heap.size ∧ (R b ∨ b ∈ fp ∨ w.heap.size ≤ b)) ∧
      (∀ b, b < w.heap.size → b ∉ fp → w'.heap[b]? = w.heap[b]?) ∧ w.heap.size ≤ w'.heap.size ∧ w'.tape = w.tape ∧ w'.os = w.os ∧ w'.output = w.output := by
    rintro ⟨⟨ps, hps, he⟩, hfree, hal⟩
    obtain ⟨R1, σ1, fps1, hr⟩ := hr
    obtain ⟨lo, lf, f, gg, us, hback, hrun, hTs, hperm⟩ := expL_sound (P := P) hT hr ts ps _ he
    obtain ⟨lb, fb, ⟨hlo, hlf⟩, hbp, hbs⟩ := backL_sound hr 0 bks vs _ hback (by rw [hbk, hvl]) (fun j v hj => by simp only [Nat.zero_add]; rw [List.getD_eq_getElem?_getD, hj]; rfl)
    have hall : (f ++ fb ++ gg).Perm ((lo ++ lb).flatMap fps1) := by
      rw [List.flatMap_append]
      refine List.Perm.trans ?_ (hperm.append hbp)
      rw [List.append_assoc, List.append_assoc]
      exact List.perm_append_comm.append_left _
    refine ⟨hr.df, _, results_run hres hrun, _, addR R1 (lf.flatMap fps1), f, fb, rfl, ?_, ?_, ?_, ?_, fun b hb => .inl (hr.R0R b hb), ?_, hr.keep, hr.sz, hr.tape, hr.os, hr.out⟩
    · have hul : us.length = ps.length := Ts.size (us := us) hTs
      have hV : V w' (addR R1 (lf.flatMap fps1)) σ1 res (resOf us) f := by
        rcases ts with _ | ⟨t, _ | ⟨u, ts⟩⟩
        · simp only at hps
          subst hps
          rcases ps with _ | ⟨p, ps⟩
          · have : us = [] := List.length_eq_zero_iff.1 hul
            subst this
            simp only [V, resOf]
            exact ⟨_, rfl, hTs⟩
          · simp [ExpL] at he
        · simp only at hps
          subst hps
          simp only [Ts] at hTs
          obtain ⟨u, us', f1, f2, rfl, h2, ⟨rfl, rfl⟩, rfl⟩ := hTs
          simpa [resOf] using h2
        · simp only at hps
          subst hps
          rcases ps with _ | ⟨p, _ | ⟨q, ps⟩⟩
          · simp [ExpL] at he
          · exfalso
            simp only [ExpL] at he
            cases hx : expRV E st t with
            | none => rw [hx] at he; exact he.elim
            | some x =>
              rw [hx] at he
              unfold ExpK at he
              rcases he with ⟨_, he⟩ | ⟨_, he⟩ <;> exact he
          · rcases us with _ | ⟨u1, _ | ⟨u2, us⟩⟩
            · simp at hul
            · simp at hul
            · simp only [V, resOf]
              exact ⟨_, rfl, hTs⟩
      have hV' := V.free (σ' := fun _ => none) _ _ _ hfree hV
      cases al with
      | true => exact V.mono (fun b hb => ⟨hb, by simp⟩) (Le.refl _) (fun _ _ => rfl) _ _ _ (fun _ _ => rfl) hV'
      | false => exact V.noR _ _ _ (hal rfl).1 hV'
    · cases al with
      | true => exact hbs _ (.inl fun b hb => ⟨.inl hb, by simp⟩)
      | false => exact hbs _ (.inr (hal rfl).2)
    · exact (List.nodup_append.1 (hall.nodup_iff.2 (perm_nodup hr hlo))).1
    · intro b hb
      obtain ⟨x, hx, hbx⟩ := List.mem_flatMap.1 (hall.mem_iff.1 (List.mem_append_left _ hb))
      obtain ⟨h1, h2, h3⟩ := hr.fb x b hbx
      refine ⟨h1, fun hR => ?_, h3⟩
      rcases hR with hR | hR
      · exact h2 hR
      · obtain ⟨y, hy, hby⟩ := List.mem_flatMap.1 hR
        have hne : y ≠ x := by rintro rfl; exact hlf _ hy hx
        exact hr.dj y x hne b hby hbx
    · intro b hb
      rcases hb with hb | hb
      · exact hr.Rb b hb
      · obtain ⟨y, hy, hby⟩ := List.mem_flatMap.1 hb
        obtain ⟨h1, _, h3⟩ := hr.fb y b hby
        exact ⟨h1, .inr h3⟩
  cases ex with
  | normal => exact main hq
  | exit i => exact hq.elim
  | ret => exact main hq

end
end Go.Proofs.Ytfphffeonmjfcaa.PVE
