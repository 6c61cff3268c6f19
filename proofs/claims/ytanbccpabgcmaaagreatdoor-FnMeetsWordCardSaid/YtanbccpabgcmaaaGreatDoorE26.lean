/- The PV engine, part 26: a contract out of the machine's run; the table of types, read off the program. -/
import Derived.Test.YtanbccpabgcmaaaGreatDoorE25
set_option linter.unusedVariables false
set_option linter.unusedSimpArgs false
set_option linter.unusedSectionVars false
namespace Go.Proofs.YtanbccpabgcmaaaGreatDoor.PVE
open PV

section
variable {P : Program} {E : Env} {S : Sys}
theorem pcalls_of {f : Nat} {fu : Func} {c : Code} {ts : List ResultVar} (hT : TyOk P E.T) (hf : P.funcs[f]? = some fu) (hname : (fu.name == "runtime.NumGoroutine") = false) (hb : fu.body = some c)
    (hres : fu.results = ts.toArray) {args : List PV} {bks : List (Option PV)} {res : PV} {al : Bool} (hbk : bks.length = args.length) (hn : args.length ≤ fu.ntmps)
    (h : ∀ w0 R0 F0 gh a w, RelX E w0 R0 F0 gh fu.ntmps (entry args) a w → c.wp P (fun e a w => (e = .normal ∨ e = .ret) ∧ ∃ st, RelX E w0 R0 F0 gh fu.ntmps st a w ∧ Fin E ts res bks al st) a w) : PCalls P E.G f args bks res al := by
  refine ⟨⟨fu, hf, hname, by simp [hb]⟩, ?_⟩
  intro w R vs fp hG hts hnd hfp hRb
  obtain ⟨σ', fpN, g, i1, i2, i3, i4, i5, i6⟩ := impL_sound (w := w) (Rv := R) args vs fp 0 (fun _ => none) (by simp) hts
  have hvl : vs.length = args.length := Ts.size (us := vs) hts
  have hl1 : (impL args 0).1.length = args.length := impL_len args 0
  have hnd' := (List.nodup_append.1 (i6.nodup_iff.1 hnd)).2.1
  have hid : ∀ (r : Nat) (x : Nat × PV), (impL args 0).2[r]? = some x → x.1 = r := by
    intro r x hx
    have : ((impL args 0).2.map (·.1))[r]? = some x.1 := by rw [List.getElem?_map, hx]; rfl
    rw [i4] at this
    have hlt := (List.getElem?_eq_some_iff.1 hx).1
    rw [List.getElem?_range' hlt] at this
    simp at this
    omega
  have hmem : ∀ r, r < (impL args 0).2.length → r ∈ (impL args 0).2.map (·.1) := fun r hr => by rw [i4]; simp; omega
  have hsub : ∀ r, r < (impL args 0).2.length → ∀ b ∈ fpN r, b ∈ fp := fun r hr b hb => i6.mem_iff.2 (List.mem_append_right _ (List.mem_flatMap.2 ⟨r, hmem r hr, hb⟩))
  have hrel : Rel w R fp (fun i => vs.getD i Go.undef) E.G fu.ntmps (fun r => (entry args).next ≤ r) R σ' (fun r => if r < (impL args 0).2.length then fpN r else []) (entry args) { tmps := vs.toArray ++ Array.replicate (fu.ntmps - vs.toArray.size) Go.undef, defers := [] } w := by
    refine ⟨fun t => ?_, fun r x hx => ?_, fun r hx => ?_, fun r => ?_, fun r s hrs b hb => ?_, fun r b hb => ?_, fun b hb => ⟨hRb b hb, .inl hb⟩, fun b hb => hb, fun _ _ _ => rfl, Nat.le_refl _, rfl, rfl, rfl, fun r hr => ?_, hG, ?_, rfl⟩
    · simp only [entry, tmv]
      by_cases htg : ¬ t < gBase
      · simp only [htg, if_false]
        split
        · cases hc : (impL args 0).1[t - gBase]? with
          | none => simp [V]
          | some c =>
            obtain ⟨u, h1, h2⟩ := i3.at hc
            have : vs.getD (t - gBase) Go.undef = u := by rw [List.getD_eq_getElem?_getD, h1]; rfl
            rw [this]
            exact h2
        · simp [V]
      have htg : t < gBase := by omega
      simp only [htg, if_true]
      by_cases ht : t < vs.length
      · obtain ⟨c, hc⟩ : ∃ c, (impL args 0).1[t]? = some c := ⟨_, List.getElem?_eq_getElem (by omega)⟩
        obtain ⟨u, h1, h2⟩ := i3.at hc
        rw [hc]
        simp only [Option.getD_some]
        have : (vs.toArray ++ Array.replicate (fu.ntmps - vs.toArray.size) Go.undef).getD t Go.undef = u := by
          rw [Array.getD_eq_getD_getElem?, Array.getElem?_append_left (by simpa using ht)]
          simp [h1]
        rw [this]
        exact h2
      · rw [List.getElem?_eq_none (by omega)]
        simp only [Option.getD_none, V]
        refine ⟨?_, trivial⟩
        rw [Array.getD_eq_getD_getElem?, Array.getElem?_append_right (by simpa using ht)]
        simp only [Array.getElem?_replicate]
        split <;> rfl
    · simp only [entry] at hx
      cases hy : (impL args 0).2[r]? with
      | none => simp [hy] at hx
      | some y =>
        simp only [hy, Option.map_some, Option.some.injEq] at hx
        subst hx
        have hlt := (List.getElem?_eq_some_iff.1 hy).1
        obtain ⟨k, k1, k2, k3⟩ := i5 y (List.mem_of_getElem? hy)
        have := hid r y hy
        subst this
        refine ⟨k, k1, ?_, k3⟩
        simp only [hlt, if_true]
        exact k2
    · by_cases hlt : r < (impL args 0).2.length
      · simp [entry, hlt] at hx
      · simp [hlt]
    · by_cases hlt : r < (impL args 0).2.length
      · simp only [hlt, if_true]
        exact (nodup_flat hnd').1 r (hmem r hlt)
      · simp [hlt]
    · by_cases h1 : r < (impL args 0).2.length
      · by_cases h2 : s < (impL args 0).2.length
        · simp only [h1, h2, if_true] at hb ⊢
          exact (nodup_flat hnd').2 r (hmem r h1) s (hmem s h2) hrs b hb
        · simp [h2]
      · simp [h1] at hb
    · by_cases h1 : r < (impL args 0).2.length
      · simp only [h1, if_true] at hb
        have hbf := hsub r h1 b hb
        exact ⟨(hfp b hbf).1, (hfp b hbf).2, .inl hbf⟩
      · simp [h1] at hb
    · have hr' : (impL args 0).2.length ≤ r := hr
      refine ⟨by rw [i2 r (.inr (by omega))], ?_⟩
      simp [entry, List.getElem?_eq_none hr']
    · simp only [Array.size_append, Array.size_replicate, List.size_toArray]
      omega
  refine calls_of_wp hf hb ?_
  refine wp_mono (h _ _ _ _ _ _ ⟨_, _, _, hrel⟩) ?_
  rintro ex a w' ⟨hex, st, hr, hq⟩
  have main : Fin E ts res bks al st → a.defers = [] ∧ ∃ v, (results fu a.tmps).run P w' = .ok v w' ∧ ∃ (v' : Value) (R' : Nat → Prop) (fr fb : List Nat), Ending.returned v = .returned v' ∧
      V w' (fun b => R' b ∧ (al = false → w.heap.size ≤ b)) (fun _ => none) res v' fr ∧ Bs w' (fun b => R' b ∧ (al = false → w.heap.size ≤ b)) vs bks fb ∧ (fr ++ fb).Nodup ∧
      (∀ b ∈ fr ++ fb, b < w'.heap.size ∧ ¬ R' b ∧ (b ∈ fp ∨ w.heap.size ≤ b)) ∧ (∀ b, R b → R' b) ∧
      (∀ b, R' b → b < w'.heap.size ∧ (R b ∨ b ∈ fp ∨ w.heap.size ≤ b)) ∧
      (∀ b, b < w.heap.size → b ∉ fp → w'.heap[b]? = w.heap[b]?) ∧ w.heap.size ≤ w'.heap.size ∧ w'.tape = w.tape ∧ w'.os = w.os ∧ w'.output = w.output := by
    rintro ⟨⟨ps, hps, he⟩, hfree, hal⟩
    obtain ⟨R1, σ1, fps1, hr⟩ := hr
    obtain ⟨lo, lf, f, gg, us, hback, hrun, hTs, hperm⟩ := expL_sound (P := P) hT hr ts ps _ he
    obtain ⟨lb, fb, ⟨hlo, hlf⟩, hbp, hbs⟩ := backL_sound hr 0 bks vs _ hback (by rw [hbk, hvl]) (fun j v hj => by simp only [Nat.zero_add]; rw [List.getD_eq_getElem?_getD, hj]; rfl)
    have hall : (f ++ fb ++ gg).Perm ((lo ++ lb).flatMap fps1) := by
      rw [List.flatMap_append]
      refine List.Perm.trans ?_ (hperm.append hbp)
      rw [List.append_assoc, List.append_assoc]
      exact List.perm_append_comm.append_left _
    refine ⟨hr.df, _, results_run hres hrun, _, addR R1 (lf.flatMap fps1), f, fb, rfl, ?_, ?_, ?_, ?_, fun b hb => .inl (hr.R0R b hb), ?_, hr.keep, hr.sz, hr.tape, hr.os, hr.out⟩
    · have hul : us.length = ps.length := Ts.size (us := us) hTs
      have hV : V w' (addR R1 (lf.flatMap fps1)) σ1 res (resOf us) f := by
        rcases ts with _ | ⟨t, _ | ⟨u, ts⟩⟩
        · simp only at hps
          subst hps
          rcases ps with _ | ⟨p, ps⟩
          · have : us = [] := List.length_eq_zero_iff.1 hul
            subst this
            simp only [V, resOf]
            exact ⟨_, rfl, hTs⟩
          · simp [ExpL] at he
        · simp only at hps
          subst hps
          simp only [Ts] at hTs
          obtain ⟨u, us', f1, f2, rfl, h2, ⟨rfl, rfl⟩, rfl⟩ := hTs
          simpa [resOf] using h2
        · simp only at hps
          subst hps
          rcases ps with _ | ⟨p, _ | ⟨q, ps⟩⟩
          · simp [ExpL] at he
          · exfalso
            simp only [ExpL] at he
            rcases he with he | he
            · cases hx : expRV E st t with
              | none => rw [hx] at he; exact he.elim
              | some x =>
                rw [hx] at he
                unfold ExpK at he
                rcases he with ⟨_, he⟩ | ⟨_, he⟩ <;> exact he
            · unfold ExpZ at he
              split at he
              · exact he
              · exact he.2
          · rcases us with _ | ⟨u1, _ | ⟨u2, us⟩⟩
            · simp at hul
            · simp at hul
            · simp only [V, resOf]
              exact ⟨_, rfl, hTs⟩
      have hV' := V.free (σ' := fun _ => none) _ _ _ hfree hV
      cases al with
      | true => exact V.mono (fun b hb => ⟨hb, by simp⟩) (Le.refl _) (fun _ _ => rfl) _ _ _ (fun _ _ => rfl) hV'
      | false => exact V.noR _ _ _ (hal rfl).1 hV'
    · cases al with
      | true => exact hbs _ (.inl fun b hb => ⟨.inl hb, by simp⟩)
      | false => exact hbs _ (.inr (hal rfl).2)
    · exact (List.nodup_append.1 (hall.nodup_iff.2 (perm_nodup hr hlo))).1
    · intro b hb
      obtain ⟨x, hx, hbx⟩ := List.mem_flatMap.1 (hall.mem_iff.1 (List.mem_append_left _ hb))
      obtain ⟨h1, h2, h3⟩ := hr.fb x b hbx
      refine ⟨h1, fun hR => ?_, h3⟩
      rcases hR with hR | hR
      · exact h2 hR
      · obtain ⟨y, hy, hby⟩ := List.mem_flatMap.1 hR
        have hne : y ≠ x := by rintro rfl; exact hlf _ hy hx
        exact hr.dj y x hne b hby hbx
    · intro b hb
      rcases hb with hb | hb
      · exact hr.Rb b hb
      · obtain ⟨y, hy, hby⟩ := List.mem_flatMap.1 hb
        obtain ⟨h1, _, h3⟩ := hr.fb y b hby
        exact ⟨h1, .inr h3⟩
  rcases hex with rfl | rfl
  · exact main hq
  · exact main hq


theorem ifP_inl {α : Type} {x : Option (Prop × α)} {K : α → Conf} {b : Ans} (h : ifP x (fun e => some (.inl (K e))) = some (.inr b : Conf ⊕ Ans)) : False := by
  obtain ⟨p, e, h1, h2, h3⟩ := ifP_some.1 h
  cases h3
theorem step_inr {call : Nat → List PV → Option Ans} {F : Fx} {c : Conf} {b : Ans} (h : step call E F c = some (.inr b)) : ∃ p st, finR E F st = some (p, b) ∧ p := by
  have fin : ∀ {st : St}, finish E F st = some (.inr b) → ∃ p st, finR E F st = some (p, b) ∧ p := by
    intro st h
    obtain ⟨p, b', h1, h2, h3⟩ := finish_some h
    cases h3
    exact ⟨p, st, h1, h2⟩
  have ent : ∀ {c : Code} {st : St} {ks : List Fr}, enter F c st ks = some (.inr b) → False := by
    intro c st ks h
    obtain ⟨L, p, s, h1, h2, h3⟩ := enter_some h
    cases h3
  unfold step at h
  repeat' (first
    | exact fin h
    | exact (ent h).elim
    | (cases h; done)
    | exact (ifP_inl h).elim
    | (unfold runO at h)
    | (unfold runD at h)
    | split at h)
theorem ex_bks {F : Fx} : ∀ {k : Nat} {c : Conf} {ans : Ans}, ex S k F c = some ans → ans.bks.length = F.cm.modes.length
  | 0, c, ans, h => by simp [ex] at h
  | k + 1, c, ans, h => by
    obtain ⟨k', hk, r, hr, hx⟩ := ex_step h
    obtain rfl : k = k' := by omega
    cases r with
    | inl c' => exact ex_bks hx
    | inr b =>
      simp only at hx
      subst hx
      obtain ⟨p, st, h1, h2⟩ := step_inr hr
      exact (finR_fin h1 h2).2
/-- Every answer of the machine is a contract. -/
theorem call_sound_all (hT : TyOk S.P S.E.T) (hS : SOk S.P S.E.S) (hm : S.P.follows .mixedOrders = true) (hlib : CallOk S.P S.E S.lib) : ∀ K, CallOk S.P S.E (callOf S (ex S K)) := by
  intro K
  induction K using Nat.strongRecOn with
  | _ K ih =>
    intro f xs ans h
    unfold callOf at h
    split at h
    · rename_i b hl
      obtain rfl := Option.some.inj h
      exact hlib _ _ _ hl
    · split at h
      · cases h
      · rename_i fu hf
        split at h
        · cases h
        · rename_i c hb
          split at h
          case isFalse => cases h
          rename_i hc
          obtain ⟨h1, h2, h3⟩ := hc
          simp only [fnChk, Bool.and_eq_true, Bool.not_eq_true'] at h1
          obtain ⟨K', rfl, _⟩ := ex_step h
          have hcall := ih K' (Nat.lt_succ_self _)
          have hlen : ∀ w0 R0 F0 gh a w, RelX S.E w0 R0 F0 gh fu.ntmps (entry xs) a w → c.wp S.P (fun e a w => (e = .normal ∨ e = .ret) ∧ ∃ st, RelX S.E w0 R0 F0 gh fu.ntmps st a w ∧ ∃ p, finR S.E (fxOf S.E S.X f fu) st = some (p, ans) ∧ p) a w := by
            intro w0 R0 F0 gh a w hr
            refine wp_mono (run_sound hT hS hm hcall c _ [] (entry xs) a w (Nat.le_refl _) h1.1 hr h) ?_
            rintro e a w ⟨s, hr, haf⟩
            cases e with
            | normal =>
              obtain ⟨j, hj, hx⟩ := haf
              obtain ⟨j', rfl, r, hr', hx⟩ := ex_step hx
              simp only [step] at hr'
              obtain ⟨p, b, k1, k2, rfl⟩ := finish_some hr'
              simp only at hx
              subst hx
              exact ⟨.inl rfl, s, hr, p, k1, k2⟩
            | exit i =>
              obtain ⟨j, hj, hx⟩ := haf
              obtain ⟨j', rfl, r, hr', hx⟩ := ex_step hx
              simp only [step] at hr'
              cases hr'
            | ret => exact ⟨.inr rfl, s, hr, haf⟩
            | _ => exact haf.elim
          by_cases hbk : ans.bks.length = xs.length
          · refine pcalls_of hT hf h1.2 hb (ts := fu.results.toList) (by simp) hbk h3 fun w0 R0 F0 gh a w hr => wp_mono (hlen w0 R0 F0 gh a w hr) ?_
            rintro e a w ⟨he, s, hr, p, k1, k2⟩
            exact ⟨he, s, hr, (finR_fin k1 k2).1⟩
          · -- no run ends so
            exfalso
            refine hbk ?_
            rw [← h2]
            exact ex_bks h
theorem R_sound (hT : TyOk S.P S.E.T) (hS : SOk S.P S.E.S) (hm : S.P.follows .mixedOrders = true) (hlib : CallOk S.P S.E S.lib) {f : Nat} {xs : List PV} {ans : Ans} (h : R S f xs = some ans) : PCalls S.P S.E.G f xs ans.bks ans.res (S.E.M f).al := by
  obtain ⟨k, hk⟩ := R_some.1 h
  exact call_sound_all hT hS hm hlib k _ _ _ hk
end

def tyDesc (P : Program) : TypeDesc → Option TyD
  | .int k => some (.int k)
  | .bool => some .bool
  | .string => some .str
  | .slice e => some (.slice e)
  | .pointer e => some (.ptr e)
  | .struct fds => if fds.toList.all (fun f => match P.info? f.type with
      | some ti => ti.size != 0
      | none => false) then some (.struct (fds.toList.map fun f => (f.offset, f.type))) else none
  | .array _ _ => none
  | _ => some .other

def aggOk : TyD → Value → Bool
  | .struct _, .agg _ => true
  | .struct _, _ => false
  | _, .agg _ => false
  | _, z => z.oneCell'
/-- How many cells an element of a cell's slice has. -/
def cellSz (P : Program) : Nat → TypeId → List Nat
  | 0, _ => []
  | n + 1, t => match P.underlying t with
    | some (.slice e) => [match P.info? e with
      | some i => i.size
      | none => 0]
    | some (.struct fds) => fds.toList.flatMap fun f => cellSz P n f.type
    | _ => [0]
def zeroPV (u : Value) (sz : Nat) : PV := match leafPV u with
  | .slo _ [] => .slo sz []
  | p => p
def zeroL : List Value → List Nat → List PV
  | [], _ => []
  | u :: us, ns => zeroPV u (ns.headD 0) :: zeroL us ns.tail
def tyOf (P : Program) (t : Nat) : Option TyI :=
  match P.info? t, P.underlying t with
  | some ti, some d => match ti.zero, tyDesc P d with
    | some z, some d' => if z.cells.size = ti.size ∧ 0 < ti.size ∧ z.cells.toList.all (fun u => u.oneCell') = true ∧ aggOk d' z = true then some ⟨d', ti.size, ti.bytes, zeroL z.cells.toList (cellSz P 8 t)⟩ else none
    | _, _ => none
  | _, _ => none

theorem zv_leaf {u : Value} (h : u.oneCell' = true) : zv (leafPV u) = some u := by
  unfold leafPV
  split <;> simp_all [zv]

theorem zv_zero {u : Value} {sz : Nat} (h : u.oneCell' = true) : zv (zeroPV u sz) = some u := by
  have := zv_leaf h
  unfold zeroPV
  split
  · rename_i k hk
    rw [hk] at this
    simpa [zv] using this
  · exact this
theorem zeroL_ok : ∀ (us : List Value) (ns : List Nat), us.all (fun u => u.oneCell') = true → (zeroL us ns).map zv = us.map some
  | [], ns, _ => rfl
  | u :: us, ns, h => by
    simp only [List.all_cons, Bool.and_eq_true] at h
    simp only [zeroL, List.map_cons, zv_zero h.1, zeroL_ok us ns.tail h.2]
theorem tyOk_tyOf (P : Program) : TyOk P (tyOf P) := by
  intro t i hi
  unfold tyOf at hi
  split at hi
  case h_2 => cases hi
  rename_i ti d h1 h2
  split at hi
  case h_2 => cases hi
  rename_i z d' h3 h4
  split at hi
  case isFalse => cases hi
  rename_i hc
  obtain ⟨c1, c2, c3, c4⟩ := hc
  simp only [Option.some.injEq] at hi
  subst hi
  refine ⟨?_, ti, z, h1, h3, rfl, rfl, c1, c2, fun ha => ?_, fun ha => ?_, ?_⟩
  · cases d <;> simp only [tyDesc, Option.some.injEq] at h4 <;> (try subst h4) <;> simp only [DescOk, h2, Option.some.injEq, reduceCtorEq] <;> (try exact ⟨_, rfl, trivial⟩)
    case struct fds =>
      split at h4
      case isFalse => cases h4
      rename_i hall
      simp only [Option.some.injEq] at h4
      subst h4
      refine ⟨fds, rfl, rfl, fun f hf => ?_⟩
      have := List.all_eq_true.1 hall f hf
      split at this
      · rename_i ti hti
        exact ⟨ti, hti, by simpa using this⟩
      · cases this
    all_goals cases h4
  · cases d' <;> simp [isAggT] at ha
    cases z <;> simp [aggOk] at c4
    exact ⟨_, rfl⟩
  · cases d' <;> simp [isAggT] at ha <;> cases z <;> simp_all [aggOk]
  · exact zeroL_ok _ _ c3


end Go.Proofs.YtanbccpabgcmaaaGreatDoor.PVE
