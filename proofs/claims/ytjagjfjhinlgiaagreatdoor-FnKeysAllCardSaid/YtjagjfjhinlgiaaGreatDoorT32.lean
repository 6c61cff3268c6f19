/- slices.SortFunc at the index's entries. -/
import Derived.Test.YtjagjfjhinlgiaaGreatDoorT31
set_option linter.unusedVariables false
set_option linter.unusedSimpArgs false
set_option maxRecDepth 100000
namespace Go.Proofs.YtjagjfjhinlgiaaGreatDoor.PVE
open PV
open Go.RowKit Go.Lib Go.Sort Go.Shelf
/-- An entry's cells: field, term, and whatever the third holds. -/
structure EC where
  f : Str
  t : Str
  v : Value
  h : v.oneCell' = true
instance : Inhabited EC := ⟨⟨[], [], .bool false, rfl⟩⟩
def EC.enc (x : EC) : List Value := [.string ⟨x.f.toArray⟩, .string ⟨x.t.toArray⟩, x.v]
def EC.key (x : EC) : Str × Str := (x.f, x.t)
@[instance_reducible] def dmYes : Dm := ⟨true⟩
theorem tab_soundD [Dm] {t : Tab} (hm : t.P.follows .mixedOrders = true) (hlib : CallOk t.P t.E t.L) {f : Nat} {xs : List PV} {ans : Ans} (h : R t.S f xs = some ans) : PCalls t.P t.G f xs ans.bks ans.res (t.M f).al :=
  R_sound (S := t.S) (tyOk_tyOf t.P) (fun _ _ h => h) hm hlib h
attribute [local instance] dmYes in
theorem cmp_calls (x y : EC) (W : World) : Calls Tryz.prog 96 #[.agg x.enc.toArray, .agg y.enc.toArray] W fun e w' => e = .returned (.int .i64 (cfE x.key y.key)) ∧ ∃ q os', w' = grow (W.drewN q) os' := by
  have hc := tab_soundD (t := tabC) Tryz.checked.mixed (fun f xs a h => by cases h) (cmp_C x.f x.t y.f y.t x.v y.v)
  have := hc.2 W (fun _ => False) [.agg x.enc.toArray, .agg y.enc.toArray] [] (fun g cs hg => by cases hg) ?_ List.nodup_nil (by simp) (fun b hb => hb.elim)
  · refine this.mono ?_
    rintro e w' ⟨v, R', fr, fb, rfl, r1, r2, r3, r4, r5, r6, r7, r8, r9, r10, r11⟩
    simp only [V] at r1
    obtain ⟨rfl, _⟩ := r1
    refine ⟨rfl, w'.drawn - W.drawn, w'.heap.extract W.heap.size w'.heap.size, ?_⟩
    have hd := r9.2 (show dmYes.dm = true from rfl)
    have hh : w'.heap = W.heap ++ w'.heap.extract W.heap.size w'.heap.size := by
      apply Array.ext_getElem?
      intro i
      by_cases hi : i < W.heap.size
      · rw [Array.getElem?_append_left hi]
        exact r7 i hi (by simp)
      · rw [Array.getElem?_append_right (by omega), Array.getElem?_extract]
        by_cases h2 : i < w'.heap.size
        · rw [if_pos (by omega)]; congr 1; omega
        · rw [if_neg (by omega), Array.getElem?_eq_none (by omega)]
    obtain ⟨h1, h2, h3, h4, h5⟩ := w'
    simp only at hd hh r9 r10 r11
    have e1 := r9.1
    simp only at e1
    subst e1 r10 r11
    simp only [grow, World.drewN]
    congr 1
    omega
  · simp only [Ts, V, Cs]
    exact ⟨_, _, [], [], rfl, ⟨_, rfl, _, _, [], [], rfl, rfl, ⟨rfl, rfl⟩, ⟨_, _, [], [], rfl, rfl, ⟨rfl, rfl⟩, ⟨_, _, [], [], rfl, x.h, ⟨rfl, x.h, rfl⟩, ⟨rfl, rfl⟩, rfl⟩, rfl⟩, rfl⟩, ⟨_, _, [], [], rfl, ⟨_, rfl, _, _, [], [], rfl, rfl, ⟨rfl, rfl⟩, ⟨_, _, [], [], rfl, rfl, ⟨rfl, rfl⟩, ⟨_, _, [], [], rfl, y.h, ⟨rfl, y.h, rfl⟩, ⟨rfl, rfl⟩, rfl⟩, rfl⟩, rfl⟩, ⟨rfl, rfl⟩, rfl⟩, rfl⟩
theorem bl_def (a b : Str) : Op.bytesLess a b = decide (a < b) := Go.Proofs.bytesLess_eq a b
theorem keyLt_iff {a b : Str × Str} : keyLt a b = true ↔ a.1 < b.1 ∨ (a.1 = b.1 ∧ a.2 < b.2) := by simp [keyLt, bl_def]
theorem sLt_tri (a b : Str) : a < b ∨ a = b ∨ b < a := by
  by_cases h1 : a < b
  · exact .inl h1
  · by_cases h2 : b < a
    · exact .inr (.inr h2)
    · exact .inr (.inl (List.le_antisymm (List.not_lt.1 h2) (List.not_lt.1 h1)))
theorem keyLt_swo : SWO keyLt where
  irrefl x := by
    cases h : keyLt x x with
    | false => rfl
    | true => rcases keyLt_iff.1 h with h | h; exact absurd h (List.lt_irrefl _); exact absurd h.2 (List.lt_irrefl _)
  trans x y z h1 h2 := by
    rw [keyLt_iff] at *
    rcases h1 with h1 | ⟨e1, h1⟩
    · rcases h2 with h2 | ⟨e2, h2⟩
      · exact .inl (List.lt_trans h1 h2)
      · exact .inl (e2 ▸ h1)
    · rcases h2 with h2 | ⟨e2, h2⟩
      · exact .inl (e1 ▸ h2)
      · exact .inr ⟨e1.trans e2, List.lt_trans h1 h2⟩
  ntrans x y z h1 h2 := by
    have tri : ∀ a b : Str × Str, keyLt a b = false → b.1 < a.1 ∨ (b.1 = a.1 ∧ (b.2 < a.2 ∨ b.2 = a.2)) := by
      intro a b h
      have h' : ¬ (a.1 < b.1 ∨ (a.1 = b.1 ∧ a.2 < b.2)) := fun hc => by rw [keyLt_iff.2 hc] at h; cases h
      rcases sLt_tri a.1 b.1 with k | k | k
      · exact absurd (.inl k) h'
      · rcases sLt_tri a.2 b.2 with m | m | m
        · exact absurd (.inr ⟨k, m⟩) h'
        · exact .inr ⟨k.symm, .inr m.symm⟩
        · exact .inr ⟨k.symm, .inl m⟩
      · exact .inl k
    cases hc : keyLt x z with
    | false => rfl
    | true =>
      exfalso
      have hxz := keyLt_iff.1 hc
      rcases tri _ _ h1 with a1 | ⟨a1, a2⟩ <;> rcases tri _ _ h2 with b1 | ⟨b1, b2⟩ <;> rcases hxz with c1 | ⟨c1, c2⟩
      · exact List.lt_irrefl _ (List.lt_trans c1 (List.lt_trans b1 a1))
      · rw [← c1] at b1; exact List.lt_irrefl _ (List.lt_trans b1 a1)
      · rw [b1] at c1; exact List.lt_irrefl _ (List.lt_trans c1 a1)
      · rw [c1, b1] at a1; exact List.lt_irrefl _ a1
      · rw [a1] at b1; exact List.lt_irrefl _ (List.lt_trans c1 b1)
      · rw [a1, c1] at b1; exact List.lt_irrefl _ b1
      · rw [b1, a1] at c1; exact List.lt_irrefl _ c1
      · rcases a2 with a2 | a2 <;> rcases b2 with b2 | b2
        · exact List.lt_irrefl _ (List.lt_trans c2 (List.lt_trans b2 a2))
        · rw [b2] at c2; exact List.lt_irrefl _ (List.lt_trans c2 a2)
        · rw [a2] at b2; exact List.lt_irrefl _ (List.lt_trans c2 b2)
        · rw [b2, a2] at c2; exact List.lt_irrefl _ c2
theorem keyLt_cf (a b : Str × Str) : keyLt a b = decide (cfE a b < 0) := by
  unfold keyLt cfE cmpS
  simp only [bl_def]
  rcases sLt_tri a.1 b.1 with h | h | h
  · simp [h]
  · have h0 : ¬ b.1 < b.1 := List.lt_irrefl _
    rcases sLt_tri a.2 b.2 with k | k | k
    · simp [h, h0, k]
    · have k0 : ¬ b.2 < b.2 := List.lt_irrefl _
      simp [h, h0, k, k0]
    · have k0 : ¬ a.2 < b.2 := fun c => List.lt_irrefl _ (List.lt_trans c k)
      have k1 : ¬ a.2 = b.2 := fun c => by rw [c] at k; exact List.lt_irrefl _ k
      simp [h, h0, k0, k1]
  · have h0 : ¬ a.1 < b.1 := fun c => List.lt_irrefl _ (List.lt_trans c h)
    have h1 : ¬ a.1 = b.1 := fun c => by rw [c] at h; exact List.lt_irrefl _ h
    simp [h0, h1]
theorem keyLt_tri {a b : Str × Str} (h : a ≠ b) : keyLt a b = true ∨ keyLt b a = true := by
  rw [keyLt_iff, keyLt_iff]
  rcases sLt_tri a.1 b.1 with h1 | h1 | h1
  · exact .inl (.inl h1)
  · rcases sLt_tri a.2 b.2 with h2 | h2 | h2
    · exact .inl (.inr ⟨h1, h2⟩)
    · exact absurd (Prod.ext h1 h2) h
    · exact .inr (.inr ⟨h1.symm, h2⟩)
  · exact .inr (.inl h1)
theorem libSortE_ok {G : Nat → Option (List PV)} {xs : List PV} {a : Ans} (h : libSortE xs = some a) : PCalls Tryz.prog G 95 xs a.bks a.res false := by
  unfold libSortE at h
  split at h
  case h_2 => cases h
  rename_i es g
  split at h
  case isFalse => cases h
  rename_i hx
  obtain ⟨rfl, h1, h2, h3⟩ := hx
  obtain rfl := Option.some.inj h
  have eg : ∀ args w, (callFunc 96 args).run Tryz.prog w = .ok (.enter 96 args) w := enters_of Tryz.func96 (by kernel_rfl) rfl
  refine sortFunc_calls (ρ := Tryz.sort95_ren) (k := 3) Tryz.sort95 rfl Tryz.isAgg76 Tryz.sizeOf76 ⟨_, Tryz.func95, by kernel_rfl, by kernel_rfl⟩ eg keyLt_swo (enc := EC.enc) (key := EC.key) (cf := cfE) (fun _ => rfl) (by decide) (fun x v hv => ?_) keyLt_cf cmp_calls (fun e he => ?_) (fun e he w R us fp hv ho hl => ?_) (fun e he => ?_) (h2.imp fun hne => keyLt_tri hne) h3
  · simp only [EC.enc, List.mem_cons, List.not_mem_nil, or_false] at hv
    rcases hv with rfl | rfl | rfl
    · rfl
    · rfl
    · exact x.h
  · obtain ⟨f, t, ps, rfl, _⟩ := h1 e he
    exact ⟨_, rfl⟩
  · obtain ⟨f, t, ps, rfl, _⟩ := h1 e he
    simp only [V, Cs] at hv
    obtain ⟨us', e0, u1, us1, f1, f2, rfl, _, ⟨rfl, rfl⟩, ⟨u2, us2, f3, f4, rfl, _, ⟨rfl, rfl⟩, ⟨u3, us3, f5, f6, rfl, o3, _, ⟨rfl, rfl⟩, _⟩, _⟩, _⟩ := hv
    have e1 : us = [.string ⟨f.toArray⟩, .string ⟨t.toArray⟩, u3] := by simpa using e0
    subst e1
    exact ⟨⟨f, t, u3, o3⟩, rfl, rfl⟩
  · obtain ⟨f, t, ps, rfl, hn⟩ := h1 e he
    simp only [PV.noR, PV.noRL, and_true, true_and]
    exact hn
end Go.Proofs.YtjagjfjhinlgiaaGreatDoor.PVE
