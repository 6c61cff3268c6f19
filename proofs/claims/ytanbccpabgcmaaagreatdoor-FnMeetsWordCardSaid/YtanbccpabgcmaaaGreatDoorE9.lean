/- The PV engine, part 9: loads and stores. -/
import Derived.Test.YtanbccpabgcmaaaGreatDoorE8
set_option linter.unusedVariables false
set_option linter.unusedSimpArgs false
set_option linter.unusedSectionVars false
namespace Go.Proofs.YtanbccpabgcmaaaGreatDoor.PVE
open PV

section
variable {P : Program} {E : Env} {w0 : World} {R0 : Nat → Prop} {F0 : List Nat} {gh : Nat → Value} {n : Nat} {Fr : Nat → Prop} {R : Nat → Prop} {σ : Nat → Option Hd} {fps : Nat → List Nat} {st : St} {a : Act} {w : World}

theorem run_isAgg (hT : TyOk P E.T) {t : Nat} {i : TyI} (hi : E.T t = some i) (w : World) : (isAgg t).run P w = .ok (isAggT i) w := by
  have hd := (hT t i hi).1
  unfold isAggT
  cases hdd : i.d with
  | struct fs => rw [hdd] at hd; obtain ⟨fds, hu, _⟩ := hd; simp [isAgg, run_underlying hu]
  | other =>
    rw [hdd] at hd
    obtain ⟨d, hu, hn⟩ := hd
    cases d <;> simp_all [isAgg, run_underlying hu]
  | _ => rw [hdd] at hd; simp [isAgg, run_underlying hd]

/-- A load of cells that lie there. -/
theorem run_loadAt (hT : TyOk P E.T) {t : Nat} {i : TyI} (hi : E.T t = some i) {ad : Addr} {us : List Value} (hl : us.length = i.size) (hc : ∀ j u, us[j]? = some u → w.cell? (ad.add j) = some u) :
    (Instr.loadAt t (.pointer (some ad))).run P w = .ok (if isAggT i then .agg us.toArray else us.headD Go.undef) w := by
  obtain ⟨_, ti, z, g1, g2, g3, g4, g5, g6, g7, g8, g9⟩ := hT t i hi
  have hag := run_isAgg hT hi w
  cases hb : isAggT i with
  | true =>
    rw [hb] at hag
    have hload := run_loadCells_list (P := P) w ad us hc
    rw [hl] at hload
    simp [Instr.loadAt, Instr.sureAddr, loadVar, hag, sizeOf, typeInfo, g1, g3, hload]
  | false =>
    rw [hb] at hag
    have h1 : i.size = 1 := by rw [← g5, oneCell_cells (g8 hb)]; rfl
    match us, hl with
    | [u], _ =>
      have := hc 0 u rfl
      have had : ad.add 0 = ad := by simp [Addr.add]
      rw [had] at this
      simp [Instr.loadAt, Instr.sureAddr, loadVar, hag, this]
    | [], hl => simp [h1] at hl
    | _ :: _ :: _, hl => simp [h1] at hl

theorem Cs.take_ {cs : List PV} {us : List Value} (h : Cs w R σ cs us []) (k : Nat) : Cs w R σ (cs.take k) (us.take k) [] := by
  by_cases hk : k ≤ cs.length
  · have hs : cs = cs.take k ++ cs.drop k := (List.take_append_drop _ _).symm
    rw [hs] at h
    obtain ⟨u1, u2, f1, f2, rfl, hf, h1, h2⟩ := Cs.append.1 h
    obtain ⟨rfl, rfl⟩ : f1 = [] ∧ f2 = [] := by simpa using hf.symm
    have hl : u1.length = k := by rw [h1.length]; simp; omega
    rw [← hl, List.take_left' rfl, hl]
    exact h1
  · rw [List.take_of_length_le (by omega), List.take_of_length_le (by rw [h.length]; omega)]; exact h
theorem Cs.drop_ {cs : List PV} {us : List Value} (h : Cs w R σ cs us []) (k : Nat) : Cs w R σ (cs.drop k) (us.drop k) [] := by
  by_cases hk : k ≤ cs.length
  · have hs : cs = cs.take k ++ cs.drop k := (List.take_append_drop _ _).symm
    rw [hs] at h
    obtain ⟨u1, u2, f1, f2, rfl, hf, h1, h2⟩ := Cs.append.1 h
    obtain ⟨rfl, rfl⟩ : f1 = [] ∧ f2 = [] := by simpa using hf.symm
    have hl : u1.length = k := by rw [h1.length]; simp; omega
    rw [← hl, List.drop_left' rfl, hl]
    exact h2
  · rw [List.drop_eq_nil_of_le (by omega), List.drop_eq_nil_of_le (by rw [h.length]; omega)]; simp [Cs]

/-- What a load of cells yields, as a value. -/
theorem loaded_V {i : TyI} {cs : List PV} {us : List Value} (hl : us.length = i.size) (h : Cs w R σ cs us []) (h1 : isAggT i = false → i.size = 1) :
    V w R σ (if isAggT i then .agg cs else cs.headD .undef) (if isAggT i then .agg us.toArray else us.headD Go.undef) [] := by
  cases hb : isAggT i with
  | true => simp only [if_true, V]; exact ⟨us, rfl, h⟩
  | false =>
    have := h1 hb
    match cs, us, h with
    | [], [], _ => simp [this] at hl
    | c :: cs, us, h =>
      simp only [Cs] at h
      obtain ⟨u, us', f1, f2, rfl, _, hv, _, hf⟩ := h
      obtain ⟨rfl, rfl⟩ : f1 = [] ∧ f2 = [] := by simpa using hf.symm
      simpa using hv

theorem size_one (hT : TyOk P E.T) {t : Nat} {i : TyI} (hi : E.T t = some i) : isAggT i = false → i.size = 1 := by
  obtain ⟨_, ti, z, g1, g2, g3, g4, g5, g6, g7, g8, g9⟩ := hT t i hi
  intro hb
  rw [← g5, oneCell_cells (g8 hb)]; rfl

theorem cellOk_fp {c : PV} {u : Value} {f : List Nat} (hk : c.cellOk = true) (hs : ∀ sz es, c ≠ .slo sz es) (h : V w R σ c u f) : f = [] := by
  cases c <;> simp [PV.cellOk] at hk <;> simp only [V] at h
  · exact h
  · exact h.2
  · exact h.2
  · exact h.2
  · exact h.2
  · exact h.2.2
  · exact h.2
  · exact h.1
  · exact absurd rfl (hs _ _)
  · exact h.1
  · exact h.1
  · exact h.1
  · obtain ⟨us, _, hf, _⟩ := h; exact hf
  · exact h.2
  · exact h.1

theorem flatMap_same {f g : Nat → List Nat} : ∀ {l : List Nat}, (∀ r ∈ l, f r = g r) → l.flatMap f = l.flatMap g
  | [], _ => rfl
  | x :: l, h => by rw [List.flatMap_cons, List.flatMap_cons, h x (by simp), flatMap_same fun r hr => h r (by simp [hr])]

/-- Nested slices taken out. -/
theorem det_sound : ∀ (cs : List PV) (us : List Value) (f : List Nat) (b o : Nat) (σ : Nat → Option Hd), (∀ r, b ≤ r → r < b + (det cs b o).2.1.length → σ r = none) → cs.all PV.cellOk = true → Cs w R σ cs us f →
    ∃ (σ' : Nat → Option Hd) (fpN : Nat → List Nat), Le σ σ' ∧ (∀ r, (r < b ∨ b + (det cs b o).2.1.length ≤ r) → σ' r = σ r) ∧ Cs w R σ' (det cs b o).1 us [] ∧
      (det cs b o).2.1.map (·.1) = List.range' b (det cs b o).2.1.length ∧ (∀ x ∈ (det cs b o).2.1, ∃ k, σ' x.1 = some k ∧ V w R σ' x.2 k.hdr (fpN x.1) ∧ RootTy k x.2) ∧
      f = ((det cs b o).2.1.map (·.1)).flatMap fpN ∧ (det cs b o).1.length = cs.length ∧ ((∀ c ∈ cs, c ≠ .undef) → ∀ c ∈ (det cs b o).1, c ≠ .undef)
  | [], us, f, b, o, σ, hf, hk, h => by
    simp only [Cs] at h
    obtain ⟨rfl, rfl⟩ := h
    exact ⟨σ, fun _ => [], Le.refl _, fun _ _ => rfl, by simp [det, Cs], by simp [det], by simp [det], by simp [det], by simp [det], by simp [det]⟩
  | c :: cs, us, f, b, o, σ, hf, hk, h => by
    simp only [Cs] at h
    obtain ⟨u, us', f1, f2, rfl, ho, hv, hc, rfl⟩ := h
    simp only [List.all_cons, Bool.and_eq_true] at hk
    by_cases hs : ∃ sz es, c = .slo sz es
    · obtain ⟨sz, es, rfl⟩ := hs
      have hle : Le σ (upd σ b (some ⟨u, sz⟩)) := by
        intro r k hr
        have : r ≠ b := by rintro rfl; rw [hf _ (Nat.le_refl _) (by simp only [det, List.length_cons]; omega)] at hr; cases hr
        rw [upd_other _ _ _ this]; exact hr
      obtain ⟨σ', fpN, i1, i2, i3, i4, i5, i6, i7, i8⟩ := det_sound cs us' f2 (b + 1) (o + 1) (upd σ b (some ⟨u, sz⟩)) (fun r hr hr2 => by rw [upd_other _ _ _ (by omega)]; exact hf r (by omega) (by simp only [det, List.length_cons]; omega)) hk.2
        (Cs.mono (fun _ h => h) hle (fun _ _ => rfl) _ _ _ (fun _ _ => rfl) hc)
      have hb : σ' b = some ⟨u, sz⟩ := by rw [i2 b (.inl (by omega))]; exact upd_same _ _ _
      refine ⟨σ', fun r => if r = b then f1 else fpN r, hle.trans i1, ?_, ?_, ?_, ?_, ?_, by simp [det, i7], ?_⟩
      · intro r hr
        simp only [det, List.length_cons] at hr
        rw [i2 r (by omega), upd_other _ _ _ (by omega)]
      · simp only [det, Cs, V]
        exact ⟨u, us', [], [], rfl, ho, ⟨rfl, ⟨u, sz⟩, hb, rfl, ho⟩, i3, rfl⟩
      · simp only [det, List.map_cons, List.length_cons, List.range'_succ, i4]
      · intro x hx
        simp only [det, List.mem_cons] at hx
        rcases hx with rfl | hx
        · exact ⟨⟨u, sz⟩, hb, by simpa using V.mono (fun _ h => h) (hle.trans i1) (fun _ _ => rfl) _ _ _ (fun _ _ => rfl) hv, rfl⟩
        · have hne : x.1 ≠ b := by
            have : x.1 ∈ List.range' (b + 1) (det cs (b + 1) (o + 1)).2.1.length := by rw [← i4]; exact List.mem_map_of_mem hx
            simp at this; omega
          simp only [hne, if_false]
          exact i5 x hx
      · simp only [det, List.map_cons, List.flatMap_cons, if_true]
        rw [i6]
        congr 1
        refine flatMap_same fun r hr => ?_
        rw [i4] at hr
        have : r ≠ b := by simp at hr; omega
        simp [this]
      · intro hu c hc
        simp only [det, List.mem_cons] at hc
        rcases hc with rfl | hc
        · simp
        · exact i8 (fun x hx => hu x (by simp [hx])) c hc
    · have hdet : det (c :: cs) b o = (c :: (det cs b (o + 1)).1, (det cs b (o + 1)).2.1, (det cs b (o + 1)).2.2) := by
        cases c <;> first | rfl | exact absurd ⟨_, _, rfl⟩ hs
      have hf1 := cellOk_fp hk.1 (fun sz es he => hs ⟨sz, es, he⟩) hv
      subst hf1
      obtain ⟨σ', fpN, i1, i2, i3, i4, i5, i6, i7, i8⟩ := det_sound cs us' f2 b (o + 1) σ (by rw [hdet] at hf; exact hf) hk.2 hc
      refine ⟨σ', fpN, i1, by rw [hdet]; exact i2, ?_, by rw [hdet]; exact i4, by rw [hdet]; exact i5, by rw [hdet]; exact i6, by rw [hdet]; simp [i7], ?_⟩
      · rw [hdet]
        simp only [Cs]
        exact ⟨u, us', [], [], rfl, ho, V.mono (fun _ h => h) i1 (fun _ _ => rfl) _ _ _ (fun _ _ => rfl) hv, i3, rfl⟩
      · rw [hdet]
        intro hu x hx
        rcases List.mem_cons.1 hx with rfl | hx
        · exact hu _ (by simp)
        · exact i8 (fun y hy => hu y (by simp [hy])) x hx

/-- What is known of an address into a root. -/
theorem addr_root (h : Rel w0 R0 F0 gh E.G n Fr R σ fps st a w) {r k off : Nat} {u : Value} (hv : V w R σ (.addr r k off) u []) {rt : Root} (hr : st.store r = some rt) :
    ∃ hh b, σ r = some hh ∧ blkOf hh.hdr = some b ∧ u = .pointer (some ⟨b, k * hh.sz + off, none⟩) ∧ V w R σ rt.pv hh.hdr (fps r) ∧ RootTy hh rt.pv := by
  simp only [V] at hv
  obtain ⟨_, hh, b, h1, h2, rfl⟩ := hv
  obtain ⟨hh', k1, k2, k3⟩ := h.rt r rt hr
  obtain rfl : hh = hh' := by rw [h1] at k1; exact Option.some.inj k1
  exact ⟨hh, b, h1, h2, rfl, k2, k3⟩

theorem cur_cells {b : Nat} {cur : Array Value} {et lo hi : Nat} (hg : w.heap[b]? = some (.cells cur et (lo, hi))) {o m : Nat} {old : List Value} (hl : old.length = m) (hcur : ∀ j, j < m → cur[o + j]? = old[j]?) :
    ∀ j u, old[j]? = some u → w.cell? ((⟨b, o, none⟩ : Addr).add j) = some u := by
  intro j u hu
  have hj : j < m := by rw [← hl]; exact (List.getElem?_eq_some_iff.1 hu).1
  rw [add_lit', cell_of_row w b (o + j) cur et (lo, hi) hg, hcur j hj, hu]

theorem out_load (hT : TyOk P E.T) (h : Rel w0 R0 F0 gh E.G n Fr R σ fps st a w) {o : Oper} (hd : dstOk n o.dst) {t : Nat} {x : Operand} (ho : o.op = .load t x) {p : Prop} {e : Eff} (he : eff E st o.op = some (p, e)) (hp : p) : Out P E w0 R0 F0 gh n Fr st o a w e := by
  rw [ho] at he
  simp only [eff] at he
  split at he
  case h_2 => cases he
  rename_i i hi
  have hx := ev_V h x
  have hs1 := size_one hT hi
  obtain ⟨_, ti, z, g1, g2, g3, g4, g5, g6, g7, g8, g9⟩ := hT t i hi
  have hpro : ∀ cs : List PV, loadPro st i cs = some (p, e) → V w R σ (.pro cs) (a.eval x) [] → Out P E w0 R0 F0 gh n Fr st o a w e := by
    intro cs he hx
    unfold loadPro at he
    split at he
    case isFalse => cases he
    rename_i hsz
    simp only [V] at hx
    obtain ⟨_, ad, us, hu, hR, hc, hcs⟩ := hx
    have hl : (us.take i.size).length = i.size := by rw [List.length_take, hcs.length]; omega
    have hc' : ∀ j u, (us.take i.size)[j]? = some u → w.cell? (ad.add j) = some u := by
      intro j u hu
      rw [List.getElem?_take] at hu
      split at hu
      · exact hc j u hu
      · cases hu
    have hrun := run_loadAt (w := w) hT hi hl hc'
    have hV := loaded_V hl (hcs.take_ i.size) hs1
    have hex : (execOp a.eval o).run P w = .ok (.value (if isAggT i then .agg (us.take i.size).toArray else (us.take i.size).headD Go.undef)) w := by
      simp only [execOp, ho, Sem.run_bind, hu, hrun, Result.andThen_ok, Sem.run_pure]
    have hval : plainE st (if isAggT i then .agg (cs.take i.size) else (cs.take i.size).headD .undef) = some (p, e) := by
      cases hb : isAggT i with
      | true => rw [hb] at he; simpa using he
      | false =>
        rw [hb] at he
        have := hs1 hb
        cases cs with
        | nil => simp at he
        | cons c cs => rw [this]; simpa using he
    exact out_plain h hd hval hV hex
  cases hev : ev E st x <;> rw [hev] at he hx <;> simp only [loadE] at he <;> try (cases he; done)
  case pro cs => exact hpro cs he hx
  case addr r k off =>
    split at he
    · cases he
    · rename_i cs links hr
      split at he
      case isFalse => cases he
      rename_i hk0
      subst hk0
      refine hpro _ he ?_
      obtain ⟨hh, b, k1, k2, hu, k3, k4⟩ := addr_root h hx hr
      simp only [RootTy] at k4
      obtain ⟨b', hb'⟩ := k4
      simp only [V] at k3
      obtain ⟨_, ad, us, had, hR, hc, hcs⟩ := k3
      rw [hb'] at k2 had
      simp only [blkOf, Option.some.injEq] at k2
      simp only [Value.pointer.injEq, Option.some.injEq] at had
      subst k2 had
      rw [hu]
      simp only [V]
      refine ⟨trivial, _, us.drop off, rfl, hR, fun j u hj => ?_, hcs.drop_ _⟩
      rw [List.getElem?_drop] at hj
      have := hc _ u hj
      rw [add_lit'] at this ⊢
      simpa [Nat.add_assoc] using this
    rename_i rt hnp hr
    split at he
    · cases he
    rename_i el hel
    split at he
    case isFalse => cases he
    rename_i hsz
    obtain ⟨hsz, hok⟩ := hsz
    obtain ⟨hh, b, k1, k2, hu, k3, k4⟩ := addr_root h hx hr
    obtain ⟨b', cur, et, lo, hi', f1, f0, f2, old, m1, m2, m3, m4, m5, m6, m7, m8, m9, hput⟩ := focus k3 k4 hel hsz g6
    obtain rfl : b = b' := by rw [k2] at m1; exact Option.some.inj m1
    have hrun := run_loadAt (w := w) hT hi m5 (cur_cells m2 m5 m8)
    have hex : (execOp a.eval o).run P w = .ok (.value (if isAggT i then .agg old.toArray else old.headD Go.undef)) w := by
      simp only [execOp, ho, Sem.run_bind, hu, hrun, Result.andThen_ok, Sem.run_pure]
    split at he
    · -- nothing is nested
      rename_i hemp
      have hnil : (det ((el.cells.drop off).take i.size) st.next off).2.1 = [] := by simpa using hemp
      obtain ⟨σ', fpN, i1, i2, i3, i4, i5, i6, i7, i8⟩ := det_sound _ old f0 st.next off σ (fun r hr hr2 => by rw [hnil] at hr2; simp at hr2; omega) hok m7
      have hcs : Cs w R σ (det ((el.cells.drop off).take i.size) st.next off).1 old [] := by
        have hσ : σ' = σ := by funext r; exact i2 r (by rw [hnil]; simp; omega)
        rw [hσ] at i3; exact i3
      exact out_plain h hd he (loaded_V m5 hcs hs1) hex
    · -- roots are taken out
      simp only [Option.some.injEq, Prod.mk.injEq] at he
      obtain ⟨_, rfl⟩ := he
      intro hFF
      obtain ⟨σ', fpN, i1, i2, i3, i4, i5, i6, i7, i8⟩ := det_sound _ old f0 st.next off σ (fun r hr hr2 => (h.fr r (hFF r hr hr2)).1) hok m7
      have hrlt : ¬ (st.next ≤ r ∧ r < st.next + (det ((el.cells.drop off).take i.size) st.next off).2.1.length) := by
        rintro ⟨hge, hlt⟩
        rw [(h.fr r (hFF r hge hlt)).2] at hr; cases hr
      have hcur : putAt cur.toList (k * hh.sz + off) old = cur.toList := putAt_self (by intro j hj; rw [Array.getElem?_toList]; exact m8 j (by omega))
      have hV := hput (w' := w) (R' := R) (σ' := σ') (fun _ h => h) i1 (fun _ _ => rfl) (fun _ _ => rfl) (by rw [hcur]; simpa using m2) i3 (by rw [i7]; simp; omega) (by
        by_cases hag : ∃ x, el = .agg x
        · exact .inl hag
        · refine .inr (i8 ?_)
          have hcell : el.cells = [el] := by cases el <;> first | rfl | exact absurd ⟨_, rfl⟩ hag
          intro c hc
          have : c ∈ el.cells := List.mem_of_mem_drop (List.mem_of_mem_take hc)
          rw [hcell] at this
          simp at this
          rw [this]; exact m9)
      have hids : ((det ((el.cells.drop off).take i.size) st.next off).2.1.map (fun x => ((x.1, (⟨x.2, []⟩ : Root)) : Nat × Root))).map (·.1) = List.range' st.next (det ((el.cells.drop off).take i.size) st.next off).2.1.length := by
        rw [List.map_map]; exact i4
      have hkeys : (((r, (⟨rt.pv.put k off (det ((el.cells.drop off).take i.size) st.next off).1, (det ((el.cells.drop off).take i.size) st.next off).2.2.map (fun o => (k, o)) ++ rt.links⟩ : Root)) : Nat × Root) :: (det ((el.cells.drop off).take i.size) st.next off).2.1.map (fun x => (x.1, (⟨x.2, []⟩ : Root)))).map (·.1) = r :: List.range' st.next (det ((el.cells.drop off).take i.size) st.next off).2.1.length := by
        rw [List.map_cons, hids]
      let fpN' : Nat → List Nat := fun q => if q = r then b :: f1 ++ [] ++ f2 else fpN q
      have hflat : (r :: List.range' st.next (det ((el.cells.drop off).take i.size) st.next off).2.1.length).flatMap fpN' = (b :: f1 ++ [] ++ f2) ++ f0 := by
        rw [List.flatMap_cons, i6, i4]
        simp only [fpN', if_true]
        congr 1
        refine flatMap_same fun q hq => ?_
        have : q ≠ r := by rintro rfl; simp at hq; exact hrlt hq
        simp [this]
      have hperm : ((b :: f1 ++ [] ++ f2) ++ f0).Perm (fps r) := by
        rw [m6]
        simp only [List.append_nil, List.cons_append, List.append_assoc]
        exact List.Perm.cons _ (List.Perm.append_left _ List.perm_append_comm)
      have hres := h.change (w' := w) (R' := R) (σ' := σ') (e := ⟨if isAggT i then PV.agg (det ((el.cells.drop off).take i.size) st.next off).1 else (det ((el.cells.drop off).take i.size) st.next off).1.headD .undef, [],
          (r, ⟨rt.pv.put k off (det ((el.cells.drop off).take i.size) st.next off).1, (det ((el.cells.drop off).take i.size) st.next off).2.2.map (fun o => (k, o)) ++ rt.links⟩) :: (det ((el.cells.drop off).take i.size) st.next off).2.1.map (fun x => (x.1, ⟨x.2, []⟩)),
          st.next + (det ((el.cells.drop off).take i.size) st.next off).2.1.length⟩) (dst := o.dst) (u := if isAggT i then .agg old.toArray else old.headD Go.undef) hd fpN'
        (by rw [hkeys, List.nodup_cons]; exact ⟨by simpa using hrlt, List.nodup_range'⟩) (fun _ h => h) (fun b hb => ⟨(h.Rb b hb).1, .inl hb⟩) i1 (fun _ _ => rfl) (fun _ _ _ _ _ => rfl)
        (by
          intro q x hx
          rcases List.mem_cons.1 hx with hx | hx
          · simp only [Prod.mk.injEq] at hx
            obtain ⟨rfl, rfl⟩ := hx
            exact ⟨hh, i1 _ _ k1, by simpa [fpN'] using hV, put_ty k4 _ _⟩
          · obtain ⟨y, hy, he⟩ := List.mem_map.1 hx
            simp only [Prod.mk.injEq] at he
            obtain ⟨rfl, rfl⟩ := he
            obtain ⟨kk, q1, q2, q3⟩ := i5 y hy
            have hmem : y.1 ∈ List.range' st.next (det ((el.cells.drop off).take i.size) st.next off).2.1.length := by rw [← i4]; exact List.mem_map_of_mem hy
            have : y.1 ≠ r := by intro hyr; rw [hyr] at hmem; simp at hmem; exact hrlt hmem
            exact ⟨kk, q1, by simpa [fpN', this] using q2, q3⟩)
        (by rw [hkeys, hflat]; exact hperm.nodup_iff.2 (h.nd r))
        (by
          intro q hq b' hb'
          rw [hkeys] at hq
          have hin : b' ∈ fps r := hperm.mem_iff.1 (by rw [← hflat]; exact List.mem_flatMap.2 ⟨q, hq, hb'⟩)
          obtain ⟨z1, z2, _⟩ := h.fb r b' hin
          exact ⟨z1, z2, .inl ⟨r, by simp, hin⟩⟩)
        (fun _ _ _ => rfl) (Nat.le_refl _) rfl rfl rfl
        (fun q hq => by rw [i2 q (by have := hq.2; simp only [not_and, Nat.not_lt] at this; omega)]; exact (h.fr q hq.1).1)
        (by intro q hq; rw [hkeys] at hq; rcases List.mem_cons.1 hq with rfl | hq; exact .inl ⟨_, k1⟩; exact .inr (by simpa using hq))
        (loaded_V m5 i3 hs1)
      exact ⟨_, _, w, R, σ', _, hex, .inl rfl, hres⟩

end
end Go.Proofs.YtanbccpabgcmaaaGreatDoor.PVE
