/- The program's sorts by a number. -/
import Derived.Test.YtgnggcpcijcahaaGreatDoorT66
import Derived.Test.YtgnggcpcijcahaaGreatDoorL7
set_option linter.unusedVariables false
set_option linter.unusedSimpArgs false
set_option maxRecDepth 100000
namespace Go.Proofs.YtgnggcpcijcahaaGreatDoor.PVE
open PV Query
open Go.RowKit Go.Lib Go.Sort Go.Shelf
def cfD (down : Bool) (p q : Int × Str) : Int := if (if down = true then -cmpI p.1 q.1 else cmpI p.1 q.1) = 0 then cmpS p.2 q.2 else (if down = true then -cmpI p.1 q.1 else cmpI p.1 q.1)
theorem cmpI_in (a b : Int) : IntKind.i64.wrap (-cmpI a b) = -cmpI a b := by
  have : -1 ≤ cmpI a b ∧ cmpI a b ≤ 1 := by unfold cmpI; split <;> (try split) <;> omega
  exact wrap_in (by omega) (by omega)
theorem ltD_cf (down : Bool) (a b : Int × Str) : ltD down a b = decide (cfD down a b < 0) := by
  unfold ltD hitLt cfD cmpI cmpS sgk
  simp only [bl_def]
  rcases Int.lt_trichotomy a.1 b.1 with h | h | h
  · have h1 : ¬ a.1 = b.1 := by omega
    have h2 : ¬ b.1 < a.1 := by omega
    cases down
    · have h3 : -b.1 < -a.1 := by omega
      simp [h, h3]
    · simp [h, h1, h2]
  · have h0 : ¬ a.1 < b.1 := by omega
    have h2 : ¬ b.1 < a.1 := by omega
    have h3 : ¬ -b.1 < -a.1 := by omega
    rcases sLt_tri a.2 b.2 with k | k | k
    · cases down <;> simp [h, k]
    · have k0 : ¬ b.2 < b.2 := List.lt_irrefl _
      cases down <;> simp [h, k, k0]
    · have k0 : ¬ a.2 < b.2 := fun c => List.lt_irrefl _ (List.lt_trans c k)
      have k1 : ¬ a.2 = b.2 := fun c => by rw [c] at k; exact List.lt_irrefl _ k
      cases down <;> simp [h, k0, k1]
  · have h0 : ¬ a.1 < b.1 := by omega
    have h1 : ¬ a.1 = b.1 := by omega
    cases down
    · have h3 : ¬ -b.1 < -a.1 := by omega
      have h4 : ¬ -a.1 = -b.1 := by omega
      simp [h0, h1, h3, h4]
    · simp [h, h0, h1]
theorem ltK_cf (a b : Int × Str) : ltK a b = decide (cmpS a.2 b.2 < 0) := by
  unfold ltK cmpS
  simp only [bl_def]
  rcases sLt_tri a.2 b.2 with k | k | k
  · simp [k]
  · have k0 : ¬ b.2 < b.2 := List.lt_irrefl _
    simp [k, k0]
  · have k0 : ¬ a.2 < b.2 := fun c => List.lt_irrefl _ (List.lt_trans c k)
    have k1 : ¬ a.2 = b.2 := fun c => by rw [c] at k; exact List.lt_irrefl _ k
    simp [k0, k1]
@[go_sem] theorem cmpB1_C (d1 d2 s1 s2 : Int) (k1 k2 : Str) (down : Bool) : R SC 74 [.agg [.int .i64 d1, .str k1, .int .i64 s1], .agg [.int .i64 d2, .str k2, .int .i64 s2], .pro [.bool down]] = some ⟨[none, none, none], .int .i64 (cfD down (s1, k1) (s2, k2))⟩ := by
  have hw := cmpI_in s1 s2
  refine goC74 rfl ?_
  cases down
  · simp only [go_sem, ↓reduceIte, Nat.reduceAdd, Nat.reduceSub, Nat.reduceEqDiff, Nat.reduceLT, Nat.reduceLeDiff, Nat.reduceMul, Int.reduceNeg, Int.reduceToNat, Int.reduceEq, Int.reduceLT, Int.reduceLE, reduceCtorEq, Tryz.f74]
    simp [cfD]
  · rw [← Int.zero_sub] at hw
    simp only [go_sem, ↓reduceIte, Nat.reduceAdd, Nat.reduceSub, Nat.reduceEqDiff, Nat.reduceLT, Nat.reduceLeDiff, Nat.reduceMul, Int.reduceNeg, Int.reduceToNat, Int.reduceEq, Int.reduceLT, Int.reduceLE, reduceCtorEq, Tryz.f74, hw]
    simp [cfD]
@[go_sem] theorem cmpB2_C (d1 d2 s1 s2 : Int) (k1 k2 : Str) : R SC 75 [.agg [.int .i64 d1, .str k1, .int .i64 s1], .agg [.int .i64 d2, .str k2, .int .i64 s2]] = some ⟨[none, none], .int .i64 (cmpS k1 k2)⟩ := by
  refine goC75 rfl ?_
  simp only [go_sem, ↓reduceIte, Nat.reduceAdd, Nat.reduceSub, Nat.reduceEqDiff, Nat.reduceLT, Nat.reduceLeDiff, Nat.reduceMul, Int.reduceNeg, Int.reduceToNat, Int.reduceEq, Int.reduceLT, Int.reduceLE, reduceCtorEq, Tryz.f75]
attribute [local instance] dmYes in
theorem cmpB1_calls (down : Bool) (x y : HC) (W : World) (R : Nat → Prop) (us : List Value) (hu : Ts W R (fun _ => none) [.pro [.bool down]] us []) (hR : ∀ b, R b → b < W.heap.size) : Calls Tryz.prog 74 (#[.agg x.enc.toArray, .agg y.enc.toArray] ++ us.toArray) W fun e w' => e = .returned (.int .i64 (cfD down x.key y.key)) ∧ ∃ q os', w' = grow (W.drewN q) os' := by
  have hc := tab_soundD (t := tabC) Tryz.checked.mixed (fun f xs a h => by cases h) (cmpB1_C x.d y.d x.s y.s x.k y.k down)
  have ea : (#[Value.agg x.enc.toArray, Value.agg y.enc.toArray] ++ us.toArray) = (Value.agg x.enc.toArray :: Value.agg y.enc.toArray :: us).toArray := by simp
  rw [ea]
  have := hc.2 W R (.agg x.enc.toArray :: .agg y.enc.toArray :: us) [] (fun g cs hg => by cases hg) ?_ List.nodup_nil (by simp) hR
  · refine this.mono ?_
    rintro e w' ⟨v, R', fr, fb, rfl, r1, r2, r3, r4, r5, r6, r7, r8, r9, r10, r11⟩
    simp only [V] at r1
    obtain ⟨rfl, _⟩ := r1
    refine ⟨rfl, w'.drawn - W.drawn, w'.heap.extract W.heap.size w'.heap.size, ?_⟩
    have hd := r9.2 (show dmYes.dm = true from rfl)
    have hh : w'.heap = W.heap ++ w'.heap.extract W.heap.size w'.heap.size := by
      apply Array.ext_getElem?
      intro i
      by_cases hi : i < W.heap.size
      · rw [Array.getElem?_append_left hi]
        exact r7 i hi (by simp)
      · rw [Array.getElem?_append_right (by omega), Array.getElem?_extract]
        by_cases h2 : i < w'.heap.size
        · rw [if_pos (by omega)]; congr 1; omega
        · rw [if_neg (by omega), Array.getElem?_eq_none (by omega)]
    obtain ⟨h1, h2, h3, h4, h5⟩ := w'
    simp only at hd hh r9 r10 r11
    have e1 := r9.1
    simp only at e1
    subst e1 r10 r11
    simp only [grow, World.drewN]
    congr 1
    omega
  · simp only [Ts, V, Cs] at hu ⊢
    exact ⟨_, _, [], [], rfl, ⟨_, rfl, _, _, [], [], rfl, rfl, ⟨rfl, rfl⟩, ⟨_, _, [], [], rfl, rfl, ⟨rfl, rfl⟩, ⟨_, _, [], [], rfl, rfl, ⟨rfl, rfl⟩, ⟨rfl, rfl⟩, rfl⟩, rfl⟩, rfl⟩, ⟨_, _, [], [], rfl, ⟨_, rfl, _, _, [], [], rfl, rfl, ⟨rfl, rfl⟩, ⟨_, _, [], [], rfl, rfl, ⟨rfl, rfl⟩, ⟨_, _, [], [], rfl, rfl, ⟨rfl, rfl⟩, ⟨rfl, rfl⟩, rfl⟩, rfl⟩, rfl⟩, hu, rfl⟩, rfl⟩
attribute [local instance] dmYes in
theorem cmpB2_calls (x y : HC) (W : World) : Calls Tryz.prog 75 #[.agg x.enc.toArray, .agg y.enc.toArray] W fun e w' => e = .returned (.int .i64 (cmpS x.key.2 y.key.2)) ∧ ∃ q os', w' = grow (W.drewN q) os' := by
  have hc := tab_soundD (t := tabC) Tryz.checked.mixed (fun f xs a h => by cases h) (cmpB2_C x.d y.d x.s y.s x.k y.k)
  have := hc.2 W (fun _ => False) [.agg x.enc.toArray, .agg y.enc.toArray] [] (fun g cs hg => by cases hg) ?_ List.nodup_nil (by simp) (fun b hb => hb.elim)
  · refine this.mono ?_
    rintro e w' ⟨v, R', fr, fb, rfl, r1, r2, r3, r4, r5, r6, r7, r8, r9, r10, r11⟩
    simp only [V] at r1
    obtain ⟨rfl, _⟩ := r1
    refine ⟨rfl, w'.drawn - W.drawn, w'.heap.extract W.heap.size w'.heap.size, ?_⟩
    have hd := r9.2 (show dmYes.dm = true from rfl)
    have hh : w'.heap = W.heap ++ w'.heap.extract W.heap.size w'.heap.size := by
      apply Array.ext_getElem?
      intro i
      by_cases hi : i < W.heap.size
      · rw [Array.getElem?_append_left hi]
        exact r7 i hi (by simp)
      · rw [Array.getElem?_append_right (by omega), Array.getElem?_extract]
        by_cases h2 : i < w'.heap.size
        · rw [if_pos (by omega)]; congr 1; omega
        · rw [if_neg (by omega), Array.getElem?_eq_none (by omega)]
    obtain ⟨h1, h2, h3, h4, h5⟩ := w'
    simp only at hd hh r9 r10 r11
    have e1 := r9.1
    simp only at e1
    subst e1 r10 r11
    simp only [grow, World.drewN]
    congr 1
    omega
  · simp only [Ts, V, Cs]
    exact ⟨_, _, [], [], rfl, ⟨_, rfl, _, _, [], [], rfl, rfl, ⟨rfl, rfl⟩, ⟨_, _, [], [], rfl, rfl, ⟨rfl, rfl⟩, ⟨_, _, [], [], rfl, rfl, ⟨rfl, rfl⟩, ⟨rfl, rfl⟩, rfl⟩, rfl⟩, rfl⟩, ⟨_, _, [], [], rfl, ⟨_, rfl, _, _, [], [], rfl, rfl, ⟨rfl, rfl⟩, ⟨_, _, [], [], rfl, rfl, ⟨rfl, rfl⟩, ⟨_, _, [], [], rfl, rfl, ⟨rfl, rfl⟩, ⟨rfl, rfl⟩, rfl⟩, rfl⟩, rfl⟩, ⟨rfl, rfl⟩, rfl⟩, rfl⟩
theorem libSortB_ok {G : Nat → Option (List PV)} {xs : List PV} {a : Ans} (h : libSortB xs = some a) : PCalls Tryz.prog G 66 xs a.bks a.res false := by
  unfold libSortB at h
  split at h
  case h_3 => cases h
  · rename_i es g down
    split at h
    case isFalse => cases h
    rename_i hx
    obtain ⟨rfl, h1, h2, h3⟩ := hx
    obtain rfl := Option.some.inj h
    have eg : ∀ args w, (callFunc 74 args).run Tryz.prog w = .ok (.enter 74 args) w := enters_of Tryz.func74 (by kernel_rfl) rfl
    refine sortFunc_callsC (ρ := Tryz.sort66_ren) (k := 3) Tryz.sort66 rfl Tryz.isAgg47 Tryz.sizeOf47 ⟨_, Tryz.func66, by kernel_rfl, by kernel_rfl⟩ eg (ltD_swo down) (enc := HC.enc) (key := HC.key) (cf := cfD down) (fun _ => rfl) (by decide) (fun x v hv => ?_) (ltD_cf down) (fun x y W R us hu hR => cmpB1_calls down x y W R us hu hR) (fun e he => ?_) (fun e he w R us fp hv ho hl => ?_) (fun e he => ?_) (h2.imp fun {a b} hne => ?_) h3
    · simp only [HC.enc, List.mem_cons, List.not_mem_nil, or_false] at hv
      rcases hv with rfl | rfl | rfl <;> rfl
    · obtain ⟨d, k, s, rfl⟩ := h1 e he
      exact ⟨_, rfl⟩
    · obtain ⟨d, k, s, rfl⟩ := h1 e he
      simp only [V, Cs] at hv
      obtain ⟨us', e0, u1, us1, f1, f2, rfl, _, ⟨rfl, rfl⟩, ⟨u2, us2, f3, f4, rfl, _, ⟨rfl, rfl⟩, ⟨u3, us3, f5, f6, rfl, o3, ⟨rfl, rfl⟩, ⟨rfl, rfl⟩, _⟩, _⟩, _⟩ := hv
      have e1 : us = [.int .i64 d, .string ⟨k.toArray⟩, .int .i64 s] := by simpa using e0
      subst e1
      exact ⟨⟨d, k, s⟩, rfl, rfl⟩
    · obtain ⟨d, k, s, rfl⟩ := h1 e he
      simp only [PV.noR, PV.noRL, and_true]
    · rcases ltD_tri down (hitKey a) (hitKey b) with h | h | h
      · exact .inl h
      · exact absurd h hne
      · exact .inr h
  · rename_i es g
    split at h
    case isFalse => cases h
    rename_i hx
    obtain ⟨rfl, h1, h2, h3⟩ := hx
    obtain rfl := Option.some.inj h
    have eg : ∀ args w, (callFunc 75 args).run Tryz.prog w = .ok (.enter 75 args) w := enters_of Tryz.func75 (by kernel_rfl) rfl
    refine sortFunc_calls (ρ := Tryz.sort66_ren) (k := 3) Tryz.sort66 rfl Tryz.isAgg47 Tryz.sizeOf47 ⟨_, Tryz.func66, by kernel_rfl, by kernel_rfl⟩ eg ltK_swo (enc := HC.enc) (key := HC.key) (cf := fun a b => cmpS a.2 b.2) (fun _ => rfl) (by decide) (fun x v hv => ?_) ltK_cf cmpB2_calls (fun e he => ?_) (fun e he w R us fp hv ho hl => ?_) (fun e he => ?_) (h2.imp fun {a b} hne => ?_) h3
    · simp only [HC.enc, List.mem_cons, List.not_mem_nil, or_false] at hv
      rcases hv with rfl | rfl | rfl <;> rfl
    · obtain ⟨d, k, s, rfl⟩ := h1 e he
      exact ⟨_, rfl⟩
    · obtain ⟨d, k, s, rfl⟩ := h1 e he
      simp only [V, Cs] at hv
      obtain ⟨us', e0, u1, us1, f1, f2, rfl, _, ⟨rfl, rfl⟩, ⟨u2, us2, f3, f4, rfl, _, ⟨rfl, rfl⟩, ⟨u3, us3, f5, f6, rfl, o3, ⟨rfl, rfl⟩, ⟨rfl, rfl⟩, _⟩, _⟩, _⟩ := hv
      have e1 : us = [.int .i64 d, .string ⟨k.toArray⟩, .int .i64 s] := by simpa using e0
      subst e1
      exact ⟨⟨d, k, s⟩, rfl, rfl⟩
    · obtain ⟨d, k, s, rfl⟩ := h1 e he
      simp only [PV.noR, PV.noRL, and_true]
    · rw [ltK, ltK, bl_def, bl_def, decide_eq_true_eq, decide_eq_true_eq]
      rcases sLt_tri (hitKey a).2 (hitKey b).2 with h | h | h
      · exact .inl h
      · exact absurd h hne
      · exact .inr h
@[go_sem] theorem sortD_R (l : List Hit) (down : Bool) (hd : l.Pairwise (fun a b => hk a ≠ hk b)) (hl : l.length ≤ 1099511627776) : R S0 66 [.slo 3 (l.map Hit.pv), .fn 74 [.pro [.bool down]]] = some ⟨[some (.slo 3 ((sortD down l).map Hit.pv)), none], .tup []⟩ := by
  refine R_lib (Eq.trans (b := libSortB [.slo 3 (l.map Hit.pv), .fn 74 [.pro [.bool down]]]) (by kernel_rfl) ?_)
  have h1 : ∀ e ∈ l.map Hit.pv, IsHit e := fun e he => by
    obtain ⟨h, _, rfl⟩ := List.mem_map.1 he
    exact ⟨_, _, _, rfl⟩
  have h2 : (l.map Hit.pv).Pairwise fun a b => hitKey a ≠ hitKey b := List.pairwise_map.2 hd
  have h3 : (l.map Hit.pv).length ≤ 1099511627776 := by rw [List.length_map]; exact hl
  rw [libSortB, if_pos ⟨rfl, h1, h2, h3⟩, sortBy_D hd]
@[go_sem] theorem sortK_R (l : List Hit) (h0 : ∀ h ∈ l, h.score = 0) (hd : l.Pairwise (fun a b => hk a ≠ hk b)) (hl : l.length ≤ 1099511627776) : R S0 66 [.slo 3 (l.map Hit.pv), .fn 75 []] = some ⟨[some (.slo 3 ((sortH l).map Hit.pv)), none], .tup []⟩ := by
  refine R_lib (Eq.trans (b := libSortB [.slo 3 (l.map Hit.pv), .fn 75 []]) (by kernel_rfl) ?_)
  have h1 : ∀ e ∈ l.map Hit.pv, IsHit e := fun e he => by
    obtain ⟨h, _, rfl⟩ := List.mem_map.1 he
    exact ⟨_, _, _, rfl⟩
  have h2 : (l.map Hit.pv).Pairwise fun a b => (hitKey a).2 ≠ (hitKey b).2 := List.pairwise_map.2 (List.Pairwise.imp_of_mem (fun {a b} ha hb hab hc => hab (Prod.ext (by show a.score = b.score; rw [h0 a ha, h0 b hb]) hc)) hd)
  have h3 : (l.map Hit.pv).length ≤ 1099511627776 := by rw [List.length_map]; exact hl
  rw [libSortB, if_pos ⟨rfl, h1, h2, h3⟩, sortBy_K h0 hd]
end Go.Proofs.YtgnggcpcijcahaaGreatDoor.PVE
