/- The PV engine, part 16: calls of Go functions: what comes back. -/
import Derived.Test.YtanbccpabgcmaaaGreatDoorE15
set_option linter.unusedVariables false
set_option linter.unusedSimpArgs false
set_option linter.unusedSectionVars false
namespace Go.Proofs.YtanbccpabgcmaaaGreatDoor.PVE
open PV

section
variable {P : Program} {E : Env} {w0 : World} {R0 : Nat → Prop} {F0 : List Nat} {gh : Nat → Value} {n : Nat} {Fr : Nat → Prop} {R : Nat → Prop} {σ : Nat → Option Hd} {fps : Nat → List Nat} {st : St} {a : Act} {w : World}

theorem backC_none {c d : PV} {cs ds : List PV} {rs : List (Option Nat)} {l : List (Nat × Root)} (h : backC (c :: cs) (none :: rs) (d :: ds) = some l) : (∀ sz es, d ≠ .slo sz es) ∧ d.cellOk = true ∧ backC cs rs ds = some l := by
  have h2 : backC (c :: cs) (none :: rs) (d :: ds) = if d.isSlo = false ∧ d.cellOk = true then backC cs rs ds else none := by cases c <;> rfl
  rw [h2] at h
  split at h
  · rename_i hk
    exact ⟨fun sz es he => by rw [he] at hk; simp [PV.isSlo] at hk, hk.2, h⟩
  · cases h
theorem backC_sound {gone : List Nat} {cs : List PV} {us : List Value} {rs : List (Option Nat)} (hb : CellBack σ gone cs us rs) : ∀ (ds : List PV) (l : List (Nat × Root)) (f : List Nat), gone.Nodup → backC cs rs ds = some l → Cs w R (fun _ => none) ds us f →
    ∃ fpB : Nat → List Nat, (l.map (·.1)).Nodup ∧ (∀ r ∈ l.map (·.1), r ∈ gone) ∧ (∀ x ∈ l, ∃ k, σ x.1 = some k ∧ V w R (fun _ => none) x.2.pv k.hdr (fpB x.1) ∧ RootTy k x.2.pv) ∧ f.Perm ((l.map (·.1)).flatMap fpB) := by
  induction hb with
  | nil =>
    intro ds l f _ he hc
    cases ds with
    | nil =>
      simp only [backC, Option.some.injEq] at he
      subst he
      simp only [Cs] at hc
      exact ⟨fun _ => [], by simp, by simp, by simp, by simp [hc.2]⟩
    | cons d ds => simp [backC] at he
  | @none l0 c u cs us rs h ih =>
    intro ds l f hnd he hc
    cases ds with
    | nil => cases c <;> simp [backC] at he
    | cons d ds =>
      simp only [Cs] at hc
      obtain ⟨u', us', f1, f2, heq, ho, hv, hc, rfl⟩ := hc
      simp only [List.cons.injEq] at heq
      obtain ⟨rfl, rfl⟩ := heq
      obtain ⟨hs, he'⟩ := backC_none he
      have := cellOk_fp he'.1 hs hv
      subst this
      simpa using ih ds l f2 hnd he'.2 hc
  | @some l0 l1 sz es u cs us rs r k hk hu hr ht h ih =>
    intro ds l f hnd he hc
    cases ds with
    | nil => simp [backC] at he
    | cons d ds =>
      simp only [Cs] at hc
      obtain ⟨u', us', f1, f2, heq, ho, hv, hc, rfl⟩ := hc
      simp only [List.cons.injEq] at heq
      obtain ⟨rfl, rfl⟩ := heq
      cases d with
      | slo sz' es' =>
        simp only [backC] at he
        split at he
        case isFalse => cases he
        rename_i hsz
        cases hb : backC cs rs ds with
        | none => simp [hb] at he
        | some l' =>
          simp only [hb, Option.map_some, Option.some.injEq] at he
          subst he
          have hnd' := List.nodup_append.1 hnd
          obtain ⟨fpB, h1, h2, h3, h4⟩ := ih ds l' f2 hnd'.2.1 hb hc
          have hne : ∀ q ∈ l'.map (·.1), q ≠ r := by
            rintro q hq rfl
            exact hnd'.2.2 q hr q (h2 q hq) rfl
          refine ⟨fun q => if q = r then f1 else fpB q, ?_, ?_, ?_, ?_⟩
          · rw [List.map_cons, List.nodup_cons]
            exact ⟨fun hm => hne _ hm rfl, h1⟩
          · intro q hq
            rw [List.map_cons] at hq
            rcases List.mem_cons.1 hq with rfl | hq
            · simp [hr]
            · simp [h2 q hq]
          · intro y hy
            rcases List.mem_cons.1 hy with rfl | hy
            · exact ⟨k, hk, by simp only [if_true]; rw [← hu]; exact hv, by simp only [RootTy]; rw [← hsz]; exact ht⟩
            · have : y.1 ≠ r := hne _ (List.mem_map_of_mem hy)
              simp only [this, if_false]
              exact h3 y hy
          · rw [List.map_cons, List.flatMap_cons]
            simp only [if_true]
            rw [flatMap_same (g := fpB) (fun q hq => by simp [hne q hq])]
            exact h4.append_left _
      | _ => simp [backC] at he

/-- What is given back. -/
theorem backs_sound {gone : List Nat} {vs : List PV} {us : List Value} {bs : List (Option Bk)} (hb : BackOk σ gone vs us bs) : ∀ (ps : List (Option PV)) (l : List (Nat × Root)) (fb : List Nat), gone.Nodup → backs vs bs ps = some l → Bs w R us ps fb →
    ∃ fpB : Nat → List Nat, (l.map (·.1)).Nodup ∧ (∀ r ∈ l.map (·.1), r ∈ gone) ∧ (∀ x ∈ l, ∃ k, σ x.1 = some k ∧ V w R (fun _ => none) x.2.pv k.hdr (fpB x.1) ∧ RootTy k x.2.pv) ∧ fb.Perm ((l.map (·.1)).flatMap fpB) := by
  induction hb with
  | nil =>
    intro ps l fb _ he hB
    cases ps with
    | nil =>
      simp only [backs, Option.some.injEq] at he
      subst he
      simp only [Bs] at hB
      subst hB
      exact ⟨fun _ => [], by simp, by simp, by simp, by simp⟩
    | cons p ps => simp [backs] at he
  | none l0 v u h ih =>
    intro ps l fb hnd he hB
    cases ps with
    | nil => simp [backs] at he
    | cons p ps =>
      cases p with
      | some p => simp [backs] at he
      | none =>
        simp only [backs, List.tail_cons] at he
        simp only [Bs] at hB
        obtain ⟨fpB, h1, h2, h3, h4⟩ := ih ps l fb (List.nodup_append.1 hnd).2.1 he hB
        exact ⟨fpB, h1, fun r hr => by simp [h2 r hr], h3, h4⟩
  | @some l0 gone v u vs us bs r k hk hu hr ht h ih =>
    intro ps l fb hnd he hB
    cases ps with
    | nil => simp [backs] at he
    | cons p ps =>
      cases p with
      | none => simp [backs] at he
      | some p =>
        simp only [backs, List.headD_cons, List.tail_cons] at he
        simp only [Bs] at hB
        obtain ⟨f1, f2, hV, hB, rfl⟩ := hB
        have hnd' := List.nodup_append.1 hnd
        have key : ∀ (l' : List (Nat × Root)) (x : Root), backs vs bs ps = some l' → RootTy k x.pv → V w R (fun _ => none) x.pv u f1 → l = (r, x) :: l' →
            ∃ fpB : Nat → List Nat, (l.map (·.1)).Nodup ∧ (∀ r ∈ l.map (·.1), r ∈ l0 ++ gone) ∧ (∀ x ∈ l, ∃ k, σ x.1 = some k ∧ V w R (fun _ => none) x.2.pv k.hdr (fpB x.1) ∧ RootTy k x.2.pv) ∧ (f1 ++ f2).Perm ((l.map (·.1)).flatMap fpB) := by
          intro l' x he' hty hV' hl
          subst hl
          obtain ⟨fpB, h1, h2, h3, h4⟩ := ih ps l' f2 hnd'.2.1 he' hB
          have hne : ∀ q ∈ l'.map (·.1), q ≠ r := by
            rintro q hq rfl
            exact hnd'.2.2 q hr q (h2 q hq) rfl
          refine ⟨fun q => if q = r then f1 else fpB q, ?_, ?_, ?_, ?_⟩
          · rw [List.map_cons, List.nodup_cons]
            exact ⟨fun hm => hne _ hm rfl, h1⟩
          · intro q hq
            rw [List.map_cons] at hq
            rcases List.mem_cons.1 hq with rfl | hq
            · simp [hr]
            · simp [h2 q hq]
          · intro y hy
            rcases List.mem_cons.1 hy with rfl | hy
            · exact ⟨k, hk, by simp only [if_true]; rw [← hu]; exact hV', hty⟩
            · have : y.1 ≠ r := hne _ (List.mem_map_of_mem hy)
              simp only [this, if_false]
              exact h3 y hy
          · rw [List.map_cons, List.flatMap_cons]
            simp only [if_true]
            rw [flatMap_same (g := fpB) (fun q hq => by simp [hne q hq])]
            exact h4.append_left _
        split at he
        · rename_i sz esv sz' es l' hp2
          split at he
          · rename_i hsz
            simp only [Option.some.injEq] at he
            simp only [RootTy] at ht
            exact key l' ⟨.slo sz' es, []⟩ hp2 (by simp only [RootTy]; rw [← hsz]; exact ht) hV he.symm
          · cases he
        · rename_i csv cs' l' hp2
          simp only [Option.some.injEq] at he
          exact key l' ⟨.pto cs', []⟩ hp2 trivial hV he.symm
        · cases he
  | @cells l0 gone cs ds xs vs us bs hc h ih =>
    intro ps l fb hnd he hB
    cases ps with
    | nil => simp [backs] at he
    | cons p ps =>
      cases p with
      | none => simp [backs] at he
      | some p =>
        simp only [backs, List.headD_cons, List.tail_cons] at he
        simp only [Bs] at hB
        obtain ⟨f1, f2, hV, hB, rfl⟩ := hB
        split at he
        case h_2 => cases he
        rename_i cs0 es l2 heq hp2
        simp only [PV.agg.injEq] at heq
        subst heq
        cases hbc : backC cs (ownsOf ds) es with
        | none => simp [hbc] at he
        | some l1 =>
          simp only [hbc, Option.map_some, Option.some.injEq] at he
          subst he
          have hnd' := List.nodup_append.1 hnd
          obtain ⟨fpB, h1, h2, h3, h4⟩ := ih ps l2 f2 hnd'.2.1 hp2 hB
          simp only [V] at hV
          obtain ⟨us2, hxs, hV⟩ := hV
          have hxs' : xs = us2 := by simpa using hxs
          subst hxs'
          obtain ⟨fpC, g1, g2, g3, g4⟩ := backC_sound hc es l1 f1 hnd'.1 hbc hV
          have hne : ∀ q ∈ l2.map (·.1), q ∉ l1.map (·.1) := fun q hq hq' => hnd'.2.2 q (g2 q hq') q (h2 q hq) rfl
          refine ⟨fun q => if q ∈ l1.map (·.1) then fpC q else fpB q, ?_, ?_, ?_, ?_⟩
          · rw [List.map_append, List.nodup_append]
            exact ⟨g1, h1, fun x hx y hy hxy => hne y hy (hxy ▸ hx)⟩
          · intro r hr
            rw [List.map_append] at hr
            rcases List.mem_append.1 hr with hr | hr
            · simp [g2 r hr]
            · simp [h2 r hr]
          · intro y hy
            rcases List.mem_append.1 hy with hy | hy
            · have : y.1 ∈ l1.map (·.1) := List.mem_map_of_mem hy
              simp only [this, if_true]
              exact g3 y hy
            · have : y.1 ∉ l1.map (·.1) := hne _ (List.mem_map_of_mem hy)
              simp only [this, if_false]
              exact h3 y hy
          · rw [List.map_append, List.flatMap_append]
            rw [flatMap_same (g := fpC) (fun q hq => by simp only [hq, if_true]), flatMap_same (l := l2.map (·.1)) (g := fpB) (fun q hq => by simp only [hne q hq, if_false])]
            exact g4.append h4

/-- What an answer owns, taken in. -/
theorem imp1_sound {Rv : Nat → Prop} : ∀ (pv : PV) (v : Value) (f : List Nat) (b : Nat) (σ : Nat → Option Hd), (∀ r, b ≤ r → r < b + (imp1 pv b).2.length → σ r = none) → V w Rv σ pv v f →
    ∃ (σ' : Nat → Option Hd) (fpN : Nat → List Nat) (g : List Nat), Le σ σ' ∧ (∀ r, (r < b ∨ b + (imp1 pv b).2.length ≤ r) → σ' r = σ r) ∧ V w Rv σ' (imp1 pv b).1 v [] ∧
      (imp1 pv b).2.map (·.1) = List.range' b (imp1 pv b).2.length ∧ (∀ x ∈ (imp1 pv b).2, ∃ k, σ' x.1 = some k ∧ V w Rv σ' x.2 k.hdr (fpN x.1) ∧ RootTy k x.2) ∧
      f.Perm (g ++ ((imp1 pv b).2.map (·.1)).flatMap fpN) := by
  intro pv v f b σ hf hv
  have keep : ∀ {q : PV}, imp1 pv b = (q, []) → V w Rv σ q v [] → ∃ (σ' : Nat → Option Hd) (fpN : Nat → List Nat) (g : List Nat), Le σ σ' ∧ (∀ r, (r < b ∨ b + (imp1 pv b).2.length ≤ r) → σ' r = σ r) ∧ V w Rv σ' (imp1 pv b).1 v [] ∧
      (imp1 pv b).2.map (·.1) = List.range' b (imp1 pv b).2.length ∧ (∀ x ∈ (imp1 pv b).2, ∃ k, σ' x.1 = some k ∧ V w Rv σ' x.2 k.hdr (fpN x.1) ∧ RootTy k x.2) ∧
      f.Perm (g ++ ((imp1 pv b).2.map (·.1)).flatMap fpN) := by
    intro q he hq
    rw [he]
    exact ⟨σ, fun _ => [], f, Le.refl _, fun _ _ => rfl, hq, by simp, by simp, by simp⟩
  have one : ∀ (hd : Hd) (q : PV), imp1 pv b = (q, [(b, pv)]) → hd.hdr = v → RootTy hd pv → V w Rv (upd σ b (some hd)) q v [] → ∃ (σ' : Nat → Option Hd) (fpN : Nat → List Nat) (g : List Nat), Le σ σ' ∧ (∀ r, (r < b ∨ b + (imp1 pv b).2.length ≤ r) → σ' r = σ r) ∧ V w Rv σ' (imp1 pv b).1 v [] ∧
      (imp1 pv b).2.map (·.1) = List.range' b (imp1 pv b).2.length ∧ (∀ x ∈ (imp1 pv b).2, ∃ k, σ' x.1 = some k ∧ V w Rv σ' x.2 k.hdr (fpN x.1) ∧ RootTy k x.2) ∧
      f.Perm (g ++ ((imp1 pv b).2.map (·.1)).flatMap fpN) := by
    intro hd q he hh hty hq
    rw [he]
    have hle : Le σ (upd σ b (some hd)) := by
      intro r k hr
      have : r ≠ b := by rintro rfl; rw [hf _ (Nat.le_refl _) (by rw [he]; simp)] at hr; cases hr
      rw [upd_other _ _ _ this]; exact hr
    refine ⟨upd σ b (some hd), fun _ => f, [], hle, fun r hr => ?_, hq, by simp, ?_, by simp⟩
    · simp at hr; rw [upd_other _ _ _ (by omega)]
    · intro x hx
      simp only [List.mem_singleton] at hx
      subst hx
      exact ⟨hd, upd_same _ _ _, by rw [hh]; exact V.mono (fun _ h => h) hle (fun _ _ => rfl) _ _ _ (fun _ _ => rfl) hv, hty⟩
  cases pv with
  | slo sz es =>
    refine one ⟨v, sz⟩ _ rfl rfl rfl ?_
    simp only [V]
    refine ⟨trivial, _, upd_same _ _ _, rfl, ?_⟩
    simp only [V] at hv
    obtain ⟨us, fp', hrow, _⟩ := hv
    obtain ⟨A, c, rfl, _⟩ := hrow.form
    rfl
  | pto cs =>
    refine one ⟨v, 0⟩ _ rfl rfl trivial ?_
    simp only [V] at hv
    obtain ⟨b', us, e, fp', rfl, _⟩ := hv
    simp only [V]
    exact ⟨trivial, _, b', upd_same _ _ _, rfl, by simp⟩
  | agg cs =>
    by_cases hk : cs.all PV.cellOk = true
    · simp only [V] at hv
      obtain ⟨us, rfl, hc⟩ := hv
      have himp : imp1 (.agg cs) b = (.agg (det cs b 0).1, (det cs b 0).2.1) := by simp only [imp1, hk, if_true]
      obtain ⟨σ', fpN, i1, i2, i3, i4, i5, i6, i7, i8⟩ := det_sound cs us f b 0 σ (by rw [himp] at hf; exact hf) hk hc
      rw [himp]
      exact ⟨σ', fpN, [], i1, i2, by simp only [V]; exact ⟨us, rfl, i3⟩, i4, i5, by rw [i6]; simp⟩
    · exact keep (q := .undef) (by simp only [imp1, hk, if_false]; rfl) (by simp [V])
  | tup cs => exact keep (q := .undef) rfl (by simp [V])
  | _ =>
    refine keep rfl ?_
    have := cellOk_fp (by rfl) (by simp) hv
    subst this
    exact hv

theorem impL_sound {Rv : Nat → Prop} : ∀ (vs : List PV) (us : List Value) (f : List Nat) (b : Nat) (σ : Nat → Option Hd), (∀ r, b ≤ r → r < b + (impL vs b).2.length → σ r = none) → Ts w Rv σ vs us f →
    ∃ (σ' : Nat → Option Hd) (fpN : Nat → List Nat) (g : List Nat), Le σ σ' ∧ (∀ r, (r < b ∨ b + (impL vs b).2.length ≤ r) → σ' r = σ r) ∧ Ts w Rv σ' (impL vs b).1 us [] ∧
      (impL vs b).2.map (·.1) = List.range' b (impL vs b).2.length ∧ (∀ x ∈ (impL vs b).2, ∃ k, σ' x.1 = some k ∧ V w Rv σ' x.2 k.hdr (fpN x.1) ∧ RootTy k x.2) ∧
      f.Perm (g ++ ((impL vs b).2.map (·.1)).flatMap fpN)
  | [], us, f, b, σ, hf, h => by
    simp only [Ts] at h
    obtain ⟨rfl, rfl⟩ := h
    exact ⟨σ, fun _ => [], [], Le.refl _, fun _ _ => rfl, by simp [impL, Ts], by simp [impL], by simp [impL], by simp [impL]⟩
  | v :: vs, us, f, b, σ, hf, h => by
    simp only [Ts] at h
    obtain ⟨u, us', f1, f2, rfl, hv, hts, rfl⟩ := h
    obtain ⟨σ1, fp1, g1, i1, i2, i3, i4, i5, i6⟩ := imp1_sound v u f1 b σ (fun r hr hr2 => hf r hr (by simp only [impL, List.length_append]; omega)) hv
    obtain ⟨σ2, fp2, g2, j1, j2, j3, j4, j5, j6⟩ := impL_sound vs us' f2 (b + (imp1 v b).2.length) σ1 (fun r hr hr2 => by rw [i2 r (.inr hr)]; exact hf r (by omega) (by simp only [impL, List.length_append]; omega)) (Ts.mono (fun _ h => h) i1 (fun _ _ => rfl) _ _ _ (fun _ _ => rfl) hts)
    have hm1 : ∀ x ∈ (imp1 v b).2, b ≤ x.1 ∧ x.1 < b + (imp1 v b).2.length := fun x hx => by
      have : x.1 ∈ List.range' b (imp1 v b).2.length := by rw [← i4]; exact List.mem_map_of_mem hx
      simpa using this
    have hm2 : ∀ x ∈ (impL vs (b + (imp1 v b).2.length)).2, b + (imp1 v b).2.length ≤ x.1 := fun x hx => by
      have : x.1 ∈ List.range' (b + (imp1 v b).2.length) (impL vs (b + (imp1 v b).2.length)).2.length := by rw [← j4]; exact List.mem_map_of_mem hx
      simp at this; omega
    refine ⟨σ2, fun r => if r < b + (imp1 v b).2.length then fp1 r else fp2 r, g1 ++ g2, i1.trans j1, ?_, ?_, ?_, ?_, ?_⟩
    · intro r hr
      simp only [impL, List.length_append] at hr
      rw [j2 r (by omega), i2 r (by omega)]
    · simp only [impL, Ts]
      exact ⟨u, us', [], [], rfl, V.mono (fun _ h => h) j1 (fun _ _ => rfl) _ _ _ (fun _ _ => rfl) i3, j3, rfl⟩
    · simp only [impL, List.map_append, List.length_append, i4, j4]
      rw [List.range'_append_1]
    · intro x hx
      simp only [impL, List.mem_append] at hx
      rcases hx with hx | hx
      · obtain ⟨k, k1, k2, k3⟩ := i5 x hx
        refine ⟨k, j1 _ _ k1, ?_, k3⟩
        simp only [(hm1 x hx).2, if_true]
        exact V.mono (fun _ h => h) j1 (fun _ _ => rfl) _ _ _ (fun _ _ => rfl) k2
      · have : ¬ x.1 < b + (imp1 v b).2.length := by have := hm2 x hx; omega
        simp only [this, if_false]
        exact j5 x hx
    · simp only [impL, List.map_append, List.flatMap_append]
      rw [flatMap_same (g := fp1) (fun q hq => by
        rw [i4] at hq; simp at hq; simp [hq.2]), flatMap_same (l := ((impL vs (b + (imp1 v b).2.length)).2.map (·.1))) (g := fp2) (fun q hq => by
        rw [j4] at hq; simp at hq
        have : ¬ q < b + (imp1 v b).2.length := by omega
        simp [this])]
      refine (i6.append j6).trans ?_
      rw [List.append_assoc, List.append_assoc]
      refine List.Perm.append_left _ ?_
      rw [← List.append_assoc, ← List.append_assoc]
      exact List.perm_append_comm.append_right _

theorem imp_sound {Rv : Nat → Prop} (pv : PV) (v : Value) (f : List Nat) (b : Nat) (σ : Nat → Option Hd) (hf : ∀ r, b ≤ r → r < b + (imp pv b).2.length → σ r = none) (hv : V w Rv σ pv v f) :
    ∃ (σ' : Nat → Option Hd) (fpN : Nat → List Nat) (g : List Nat), Le σ σ' ∧ (∀ r, (r < b ∨ b + (imp pv b).2.length ≤ r) → σ' r = σ r) ∧ V w Rv σ' (imp pv b).1 v [] ∧
      (imp pv b).2.map (·.1) = List.range' b (imp pv b).2.length ∧ (∀ x ∈ (imp pv b).2, ∃ k, σ' x.1 = some k ∧ V w Rv σ' x.2 k.hdr (fpN x.1) ∧ RootTy k x.2) ∧
      f.Perm (g ++ ((imp pv b).2.map (·.1)).flatMap fpN) := by
  cases pv with
  | tup vs =>
    simp only [V] at hv
    obtain ⟨us, rfl, hts⟩ := hv
    obtain ⟨σ', fpN, g, i1, i2, i3, i4, i5, i6⟩ := impL_sound vs us f b σ hf hts
    exact ⟨σ', fpN, g, i1, i2, by simp only [imp, V]; exact ⟨us, rfl, i3⟩, i4, i5, i6⟩
  | _ => exact imp1_sound _ v f b σ hf hv

end
end Go.Proofs.YtanbccpabgcmaaaGreatDoor.PVE
