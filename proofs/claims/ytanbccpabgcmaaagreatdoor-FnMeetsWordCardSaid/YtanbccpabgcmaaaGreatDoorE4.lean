/- The PV engine, part 4: memory: a part of a root, read and written. -/
import Derived.Test.YtanbccpabgcmaaaGreatDoorE3
set_option linter.unusedVariables false
set_option linter.unusedSimpArgs false
set_option linter.unusedSectionVars false
namespace Go.Proofs.YtanbccpabgcmaaaGreatDoor.PVE
open PV

def putAt (l : List Value) (k : Nat) (vs : List Value) : List Value := l.take k ++ vs ++ l.drop (k + vs.length)
theorem putAt_length {l : List Value} {k : Nat} {vs : List Value} (h : k + vs.length ≤ l.length) : (putAt l k vs).length = l.length := by simp [putAt]; omega
theorem putAt_mid (a b c b' : List Value) (h : b'.length = b.length) : putAt (a ++ b ++ c) a.length b' = a ++ b' ++ c := by
  unfold putAt
  rw [h, show (a ++ b ++ c).take a.length = a by rw [List.append_assoc]; exact List.take_left' rfl, show (a ++ b ++ c).drop (a.length + b.length) = c from List.drop_left' (by simp)]
theorem putAt_same (a b c : List Value) : putAt (a ++ b ++ c) a.length b = a ++ b ++ c := putAt_mid a b c b rfl

theorem run_storeRow {P : Program} (g o : Nat) (t : TypeId) (lo hi : Nat) : ∀ (vs : List Value) (i : Nat) (cur : Array Value) (w : World), w.heap[g]? = some (.cells cur t (lo, hi)) → ((lo = 0 ∧ hi = 0) ∨ cur.size ≤ lo) →
    o + i + vs.length ≤ cur.size → (∀ v ∈ vs, v.oneCell' = true) →
    (storeCells ⟨g, o, none⟩ vs i).run P w = .ok () (w.setRow g (putAt cur.toList (o + i) vs).toArray)
  | [], i, cur, w, hg, _, _, _ => by
    simp only [storeCells, putAt, List.append_nil, List.length_nil, Nat.add_zero, List.take_append_drop, Array.toArray_toList]
    rw [setRow_self w g cur t (lo, hi) hg]
    rfl
  | v :: rest, i, cur, w, hg, hm, hl, h1 => by
    have hi' : o + i < cur.size := by simp at hl; omega
    have hadd : (⟨g, o, none⟩ : Addr).add i = ⟨g, o + i, none⟩ := by unfold Addr.add; split <;> simp_all
    have hcell : w.cell? ⟨g, o + i, none⟩ = some cur[o + i] := by simp [World.cell?, hg, hi']
    have hfro : w.frozen? ⟨g, o + i, none⟩ = false := by
      simp only [World.frozen?, hg]
      rcases hm with ⟨rfl, rfl⟩ | hm
      · simp
      · have : ¬ lo ≤ o + i := by omega
        simp [this]
    have hst : (store ((⟨g, o, none⟩ : Addr).add i) v).run P w = .ok () (w.setRow g (cur.setIfInBounds (o + i) v)) := by
      rw [hadd, run_store P w _ v _ (h1 v (by simp)), hcell]
      simp [hfro, setCell_eq_setRow w g (o + i) cur t (lo, hi) v hg]
    have ih := run_storeRow (P := P) g o t lo hi rest (i + 1) (cur.setIfInBounds (o + i) v) (w.setRow g (cur.setIfInBounds (o + i) v)) (setRow_heap w g cur _ t _ hg) (by simpa using hm) (by simp at hl ⊢; omega) (fun x hx => h1 x (by simp [hx]))
    simp only [storeCells, Sem.run_bind, hst, Result.andThen_ok, ih, setRow_setRow]
    congr 3
    have e := list_seg_step cur.toList (o + i) v rest (by simp at hl ⊢; omega)
    simpa [putAt, Array.toList_setIfInBounds, Nat.add_assoc] using e

theorem oneCell_cells {u : Value} (h : u.oneCell' = true) : u.cells = #[u] := by cases u <;> first | rfl | (simp [Value.oneCell'] at h)

section focus
variable {w : World} {R : Nat → Prop} {σ : Nat → Option Hd}

theorem setElem_ty {h : Hd} {pv : PV} {k : Nat} (ht : RootTy h pv) (e : PV) : RootTy h (pv.setElem k e) := by
  cases pv <;> simp only [RootTy] at ht
  · exact ht
  · exact ht
  · cases e <;> trivial
theorem put_ty {h : Hd} {pv : PV} {k : Nat} (ht : RootTy h pv) (cs : List PV) (off : Nat) : RootTy h (pv.put k off cs) := by
  unfold PV.put
  cases he : pv.elem k with
  | none => exact ht
  | some e => exact setElem_ty ht _

/-- A part of a root: m cells of its element k, from off on. What they hold; and what the root is when they hold something else. -/
theorem focus {h : Hd} {pv e : PV} {fp : List Nat} {k off m : Nat} (hv : V w R σ pv h.hdr fp) (ht : RootTy h pv) (he : pv.elem k = some e) (hm : off + m ≤ e.cells.length) (hm0 : 0 < m) :
    ∃ b cur et lo hi f1 f0 f2 old, blkOf h.hdr = some b ∧ w.heap[b]? = some (.cells cur et (lo, hi)) ∧ ((lo = 0 ∧ hi = 0) ∨ cur.size ≤ lo) ∧ k * h.sz + off + m ≤ cur.size ∧ old.length = m ∧
      fp = b :: f1 ++ f0 ++ f2 ∧ Cs w R σ ((e.cells.drop off).take m) old f0 ∧ (∀ j, j < m → cur[k * h.sz + off + j]? = old[j]?) ∧ e ≠ .undef ∧
      ∀ {w' : World} {R' : Nat → Prop} {σ' : Nat → Option Hd} {cs' : List PV} {us' : List Value} {f' : List Nat}, (∀ b, R b → R' b) → Le σ σ' → (∀ b, R b → w'.heap[b]? = w.heap[b]?) → (∀ b ∈ f1 ++ f2, w'.heap[b]? = w.heap[b]?) →
        w'.heap[b]? = some (.cells (putAt cur.toList (k * h.sz + off) us').toArray et (lo, hi)) → Cs w' R' σ' cs' us' f' → cs'.length = m → ((∃ x, e = .agg x) ∨ ∀ c ∈ cs', c ≠ .undef) →
        V w' R' σ' (pv.put k off cs') h.hdr (b :: f1 ++ f' ++ f2) := by
  have key : ∀ (v : Value) (f : List Nat), V w R σ e v f → (∀ u ∈ v.cells, u.oneCell' = true) → e ≠ .undef → ∃ p1 p2 p3 g1 g0 g2, v.cells.toList = p1 ++ p2 ++ p3 ∧ p1.length = off ∧ p2.length = m ∧ f = g1 ++ g0 ++ g2 ∧
      Cs w R σ ((e.cells.drop off).take m) p2 g0 ∧
      ∀ {w' : World} {R' : Nat → Prop} {σ' : Nat → Option Hd} {cs' : List PV} {us' : List Value} {f' : List Nat}, (∀ b, R b → R' b) → Le σ σ' → (∀ b, R b → w'.heap[b]? = w.heap[b]?) → (∀ b ∈ g1 ++ g2, w'.heap[b]? = w.heap[b]?) →
        Cs w' R' σ' cs' us' f' → cs'.length = m → ((∃ x, e = .agg x) ∨ ∀ c ∈ cs', c ≠ .undef) → ∃ v', v'.cells.toList = p1 ++ us' ++ p3 ∧ (∀ u ∈ v'.cells, u.oneCell' = true) ∧ e.reElem off cs' ≠ .undef ∧ V w' R' σ' (e.reElem off cs') v' (g1 ++ f' ++ g2) := by
    intro v f hv hone hu
    have hc := V.cellsOf hv hone hu
    have hsplit : e.cells = e.cells.take off ++ ((e.cells.drop off).take m ++ e.cells.drop (off + m)) := by
      rw [← List.drop_drop, List.take_append_drop, List.take_append_drop]
    rw [hsplit] at hc
    obtain ⟨p1, q, g1, gq, hq, rfl, h1, h2⟩ := Cs.append.1 hc
    obtain ⟨p2, p3, g0, g2, rfl, rfl, h3, h4⟩ := Cs.append.1 h2
    refine ⟨p1, p2, p3, g1, g0, g2, by rw [hq]; simp, by rw [h1.length]; simp; omega, by rw [h3.length]; simp; omega, by simp, h3, ?_⟩
    intro w' R' σ' cs' us' f' hR hσ hw hwf hcs hl hcase
    have m1 := Cs.mono hR hσ hw _ _ _ (fun b hb => hwf b (by simp [hb])) h1
    have m2 := Cs.mono hR hσ hw _ _ _ (fun b hb => hwf b (by simp [hb])) h4
    by_cases hag : ∃ x, e = .agg x
    · obtain ⟨x, rfl⟩ := hag
      refine ⟨.agg (p1 ++ us' ++ p3).toArray, by simp [Value.cells], ?_, by simp [PV.reElem], ?_⟩
      · intro u hu
        have : u ∈ p1 ++ us' ++ p3 := by simpa [Value.cells] using hu
        rcases List.mem_append.1 this with hh | hh
        · rcases List.mem_append.1 hh with hh | hh
          · exact h1.one u hh
          · exact hcs.one u hh
        · exact h4.one u hh
      · simp only [PV.reElem, V]
        refine ⟨_, rfl, ?_⟩
        simp only [putCells, PV.cells] at m1 m2 ⊢
        rw [hl]
        exact Cs.append.2 ⟨p1 ++ us', p3, g1 ++ f', g2, by simp, by simp, Cs.append.2 ⟨p1, us', g1, f', rfl, rfl, m1, hcs⟩, m2⟩
    · have hnu := hcase.resolve_left hag
      have hcell : e.cells = [e] := by cases e <;> first | rfl | exact absurd ⟨_, rfl⟩ hag
      have hoff : off = 0 ∧ m = 1 := by rw [hcell] at hm; simp at hm; omega
      obtain ⟨rfl, rfl⟩ := hoff
      have hp1 : p1 = [] := List.eq_nil_of_length_eq_zero (by rw [h1.length]; simp)
      have hp3 : p3 = [] := List.eq_nil_of_length_eq_zero (by rw [h4.length]; simp [hcell])
      subst hp1; subst hp3
      have hg1 : g1 = [] := by simp [Cs] at h1; exact h1
      have hg2 : g2 = [] := by
        have : List.drop (0 + 1) e.cells = [] := by simp [hcell]
        rw [this] at h4; simp [Cs] at h4; exact h4
      subst hg1; subst hg2
      obtain ⟨c, rfl⟩ : ∃ c, cs' = [c] := by
        match cs', hl with
        | [c], _ => exact ⟨c, rfl⟩
      have hre : e.reElem 0 [c] = c := by cases e <;> first | rfl | exact absurd ⟨_, rfl⟩ hag
      simp only [Cs] at hcs
      obtain ⟨u, _, fa, _, rfl, ho, hcv, ⟨rfl, rfl⟩, rfl⟩ := hcs
      refine ⟨u, by simp [oneCell_cells ho], by simp [oneCell_cells ho, ho], by rw [hre]; exact hnu c (by simp), by rw [hre]; simpa using hcv⟩
  cases pv with
  | slo sz es =>
    simp only [RootTy] at ht
    subst ht
    simp only [PV.elem] at he
    simp only [V] at hv
    obtain ⟨us, fp', hrow, hes, rfl⟩ := hv
    obtain ⟨hul, hrow⟩ := hrow
    have hk : k < es.length := (List.getElem?_eq_some_iff.1 he).1
    rcases hrow with ⟨_, h0⟩ | ⟨g, cap, cur, et, lo, hi, hhdr, hg, hmark, hn, hcap, hcs, htake⟩
    · omega
    · obtain ⟨u1, v, u2, f1, f, f2, rfl, hu1, hvs, hone, hu, hev, rfl, hpre, hpost⟩ := hes.at he
      obtain ⟨p1, p2, p3, g1, g0, g2, hvc, hp1, hp2, rfl, hold, hput⟩ := key v f hev hone hu
      have hblk : blkOf h.hdr = some g := by rw [hhdr]; rfl
      have hcur : cur.toList = (u1 ++ p1) ++ p2 ++ (p3 ++ u2 ++ cur.toList.drop (es.length * h.sz)) := by
        conv => lhs; rw [← List.take_append_drop (es.length * h.sz) cur.toList, htake, hvc]
        simp
      have hlen : (u1 ++ p1).length = k * h.sz + off := by simp [hu1, hp1]
      refine ⟨g, cur, et, lo, hi, f1 ++ g1, g0, g2 ++ f2, p2, hblk, hg, hmark, ?_, hp2, by simp [hblk], hold, ?_, hu, ?_⟩
      · have : cur.size = cur.toList.length := by simp
        rw [this, hcur]
        simp [hu1, hp1, hp2]; omega
      · intro j hj
        rw [← Array.getElem?_toList, hcur, ← hlen, List.append_assoc, List.getElem?_append_right (by omega), Nat.add_sub_cancel_left, List.getElem?_append_left (by omega)]
      · intro w' R' σ' cs' us' f' hR hσ hw hwf hg' hcs' hl hcase
        obtain ⟨v', hv'c, hv'1, hv'u, hv'⟩ := hput hR hσ hw (fun b hb => hwf b (by simp at hb ⊢; rcases hb with hb | hb <;> simp [hb])) hcs' hl hcase
        have hus : us'.length = p2.length := by rw [hcs'.length, hl, hp2]
        have hcur' : putAt cur.toList (k * h.sz + off) us' = (u1 ++ p1) ++ us' ++ (p3 ++ u2 ++ cur.toList.drop (es.length * h.sz)) := by
          rw [← hlen]; conv => lhs; rw [hcur]
          exact putAt_mid _ _ _ _ hus
        have hput_eq : PV.put (.slo h.sz es) k off cs' = .slo h.sz (es.take k ++ (e.reElem off cs') :: es.drop (k + 1)) := by
          simp only [PV.put, PV.elem, he, PV.setElem]
          rw [List.set_eq_take_append_cons_drop]; simp [hk]
        rw [hput_eq]
        simp only [V]
        have hpre' := Es.mono hR hσ hw _ _ _ _ (fun b hb => hwf b (by simp [hb])) hpre
        have hpost' := Es.mono hR hσ hw _ _ _ _ (fun b hb => hwf b (by simp [hb])) hpost
        have hsz' : v'.cells.size = h.sz := by
          have e1 : v'.cells.toList.length = v.cells.toList.length := by rw [hv'c, hvc]; simp [hus]
          simpa [hvs] using e1
        have hles : (es.take k ++ (e.reElem off cs') :: es.drop (k + 1)).length = es.length := by simp; omega
        refine ⟨u1 ++ (v'.cells.toList ++ u2), f1 ++ ((g1 ++ f' ++ g2) ++ f2), ⟨?_, .inr ⟨g, cap, _, et, lo, hi, by rw [hhdr, hles], hg', ?_, by rw [hles]; exact hn, hcap, ?_, ?_⟩⟩, Es.append.2 ⟨u1, v'.cells.toList ++ u2, f1, (g1 ++ f' ++ g2) ++ f2, rfl, rfl, hpre', ?_⟩, ?_⟩
        · rw [hles, ← hul]
          rw [show (u1 ++ v.cells.toList ++ u2).length = u1.length + v.cells.size + u2.length by simp; omega, hvs]
          simp [hsz']; omega
        · rw [List.size_toArray, putAt_length (by rw [hcur, ← hlen]; simp [hus]; omega), Array.length_toList]; exact hmark
        · rw [List.size_toArray, putAt_length (by rw [hcur, ← hlen]; simp [hus]; omega), Array.length_toList]; exact hcs
        · rw [hles, List.toList_toArray, hcur', hv'c]
          have hL : ((u1 ++ p1) ++ us' ++ (p3 ++ u2)).length = es.length * h.sz := by
            rw [← hul, hvc]; simp [hus]
          rw [show (u1 ++ p1) ++ us' ++ (p3 ++ u2 ++ cur.toList.drop (es.length * h.sz)) = ((u1 ++ p1) ++ us' ++ (p3 ++ u2)) ++ cur.toList.drop (es.length * h.sz) by simp, ← hL, List.take_left' rfl]
          simp
        · simp only [Es]
          exact ⟨v', u2, g1 ++ f' ++ g2, f2, rfl, hsz', hv'1, hv'u, hv', hpost', rfl⟩
        · simp [hblk]
  | pto cs =>
    simp only [V] at hv
    obtain ⟨b, us, et, fp', hhdr, hg, hcs, rfl⟩ := hv
    cases k with
    | succ k => simp [PV.elem] at he
    | zero =>
      simp only [PV.elem, Option.some.injEq] at he
      subst he
      have hev : V w R σ (.agg cs) (.agg us.toArray) fp' := by simp only [V]; exact ⟨us, rfl, hcs⟩
      obtain ⟨p1, p2, p3, g1, g0, g2, hvc, hp1, hp2, rfl, hold, hput⟩ := key _ _ hev (by intro u hu; exact hcs.one u (by simpa [Value.cells] using hu)) (by simp)
      have hus0 : us = p1 ++ p2 ++ p3 := by simpa [Value.cells] using hvc
      subst hus0
      have hblk : blkOf h.hdr = some b := by rw [hhdr]; rfl
      refine ⟨b, _, et, 0, 0, g1, g0, g2, p2, hblk, hg, .inl ⟨rfl, rfl⟩, by simp [hp1, hp2], hp2, by simp, hold, ?_, by simp, ?_⟩
      · intro j hj
        simp only [Nat.zero_mul, Nat.zero_add, List.getElem?_toArray]
        rw [← hp1, List.append_assoc, List.getElem?_append_right (by omega), Nat.add_sub_cancel_left, List.getElem?_append_left (by omega)]
      · intro w' R' σ' cs' us' f' hR hσ hw hwf hg' hcs' hl hcase
        obtain ⟨v', hv'c, hv'1, hv'u, hv'⟩ := hput hR hσ hw (fun b hb => hwf b (by simp at hb ⊢; rcases hb with hb | hb <;> simp [hb])) hcs' hl hcase
        have hus : us'.length = p2.length := by rw [hcs'.length, hl, hp2]
        simp only [PV.put, PV.elem, PV.reElem, PV.setElem, V] at hv' ⊢
        obtain ⟨us2, rfl, hv'⟩ := hv'
        have hus2 : us2 = p1 ++ us' ++ p3 := by simpa [Value.cells] using hv'c
        subst hus2
        refine ⟨b, p1 ++ us' ++ p3, et, g1 ++ f' ++ g2, hhdr, ?_, hv', by simp⟩
        rw [hg']
        simp only [Nat.zero_mul, Nat.zero_add, List.toList_toArray]
        rw [← hp1, putAt_mid _ _ _ _ hus]
  | pro cs => simp [PV.elem] at he
  | _ => simp [RootTy] at ht
end focus

end Go.Proofs.YtanbccpabgcmaaaGreatDoor.PVE
